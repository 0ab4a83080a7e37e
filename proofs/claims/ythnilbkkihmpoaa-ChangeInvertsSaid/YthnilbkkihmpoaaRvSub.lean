/-
  RV, part 1b: names for what calls give: expressions in which calls are variables.
-/
import Derived.Test.YthnilbkkihmpoaaRvCore
namespace Go.RV
open Go.RowKit

/-- variables under n alone -/
def X.under (n : Nat) : X → Bool
  | .var i => Nat.blt i n
  | .n _ | .t _ | .str _ | .nil | .lnil => true
  | .cons a b | .lcons a b | .snoc a b | .rep a b | .nth a b => X.under n a && X.under n b
  | .un _ a | .pk a | .psel _ a | .clo _ _ a | .app _ a _ => X.under n a
  | .bin _ a b | .sel _ a b | .dyn a b _ => X.under n a && X.under n b
  | .ite a b c | .sub a b c | .upd _ a b c => X.under n a && X.under n b && X.under n c

/-- the first k data of a list -/
def takeD : Nat → List D → List D
  | 0, _ => []
  | k + 1, [] => default :: takeD k []
  | k + 1, x :: xs => x :: takeD k xs
@[simp] theorem takeD_zero (l : List D) : takeD 0 l = [] := by cases l <;> rfl
@[simp] theorem takeD_cons (k : Nat) (x : D) (xs : List D) : takeD (k + 1) (x :: xs) = x :: takeD k xs := rfl
@[simp] theorem takeD_length : ∀ (k : Nat) (l : List D), (takeD k l).length = k
  | 0, l => by simp
  | k + 1, [] => by simp [takeD, takeD_length k []]
  | k + 1, x :: xs => by simp [takeD, takeD_length k xs]
theorem takeD_get : ∀ (k : Nat) (l : List D) (j : Nat), j < k → (takeD k l).getD j default = l.getD j default
  | k + 1, [], 0, _ => rfl
  | k + 1, [], j + 1, h => by
    have := takeD_get k [] j (by omega)
    simpa [takeD] using this
  | k + 1, x :: xs, 0, _ => rfl
  | k + 1, x :: xs, j + 1, h => by
    have := takeD_get k xs j (by omega)
    simpa [takeD] using this

/-- what a call gives, or the one datum of another expression -/
def X.outs (Φ : FuncId → List D → List D) (ρ : List D) : X → List D
  | .app f as _ => Φ f (as.ds Φ ρ)
  | .dyn c as _ => match c.d Φ ρ with
    | .c f _ xs => Φ f (as.ds Φ ρ ++ xs)
    | _ => []
  | e => [e.d Φ ρ]

/-- e's calls of the same kind are the variables n, n + 1, .. -/
def X.repl (e : X) (c : X) (n k : Nat) : X := match e with
  | .app f as j => if Nat.blt j k && X.beq (.app f as 0) c then .var (n + j) else .app f (X.repl as c n k) j
  | .dyn d as j => if Nat.blt j k && X.beq (.dyn d as 0) c then .var (n + j) else .dyn (X.repl d c n k) (X.repl as c n k) j
  | .var i => .var i
  | .n z => .n z
  | .t b => .t b
  | .str s => .str s
  | .nil => .nil
  | .lnil => .lnil
  | .cons a b => .cons (X.repl a c n k) (X.repl b c n k)
  | .lcons a b => .lcons (X.repl a c n k) (X.repl b c n k)
  | .snoc a b => .snoc (X.repl a c n k) (X.repl b c n k)
  | .rep a b => .rep (X.repl a c n k) (X.repl b c n k)
  | .nth a b => .nth (X.repl a c n k) (X.repl b c n k)
  | .un o a => .un o (X.repl a c n k)
  | .pk a => .pk (X.repl a c n k)
  | .psel j a => .psel j (X.repl a c n k)
  | .clo f cts a => .clo f cts (X.repl a c n k)
  | .bin o a b => .bin o (X.repl a c n k) (X.repl b c n k)
  | .sel j a b => .sel j (X.repl a c n k) (X.repl b c n k)
  | .ite a b d => .ite (X.repl a c n k) (X.repl b c n k) (X.repl d c n k)
  | .sub a b d => .sub (X.repl a c n k) (X.repl b c n k) (X.repl d c n k)
  | .upd j a b d => .upd j (X.repl a c n k) (X.repl b c n k) (X.repl d c n k)

section
variable {Φ : FuncId → List D → List D} {ρ : List D} {n k : Nat} {c : X}

theorem repl_var (hn : n = ρ.length) {out : List D} {j : Nat} (hj : j < k) : (X.var (n + j)).d Φ (ρ ++ takeD k out) = out.getD j default := by
  simp only [X.d, hn, List.getD]
  rw [List.getElem?_append_right (by omega)]
  have := takeD_get k out j hj
  simp only [List.getD] at this
  rw [← this]
  congr 2
  omega

theorem X.repl_d (hn : n = ρ.length) : ∀ e : X, e.under n = true → (e.repl c n k).d Φ (ρ ++ takeD k (c.outs Φ ρ)) = e.d Φ ρ ∧ (e.repl c n k).ds Φ (ρ ++ takeD k (c.outs Φ ρ)) = e.ds Φ ρ := by
  intro e
  induction e with
  | n z => exact fun _ => ⟨rfl, rfl⟩
  | t b => exact fun _ => ⟨rfl, rfl⟩
  | str s => exact fun _ => ⟨rfl, rfl⟩
  | nil => exact fun _ => ⟨rfl, rfl⟩
  | lnil => exact fun _ => ⟨rfl, rfl⟩
  | var i =>
    intro h
    refine ⟨?_, rfl⟩
    have hi : i < ρ.length := by rw [← hn]; simpa [X.under] using h
    simp only [X.repl, X.d, List.getD]
    rw [List.getElem?_append_left hi]
  | cons a b iha ihb =>
    intro h
    simp only [X.under, Bool.and_eq_true] at h
    exact ⟨rfl, by simp only [X.repl, X.ds, (iha h.1).1, (ihb h.2).2]⟩
  | lcons a b iha ihb =>
    intro h
    simp only [X.under, Bool.and_eq_true] at h
    exact ⟨by simp only [X.repl, X.d, (iha h.1).2, (ihb h.2).1], rfl⟩
  | un o a iha =>
    intro h
    exact ⟨by simp only [X.repl, X.d, (iha h).1], rfl⟩
  | bin o a b iha ihb =>
    intro h
    simp only [X.under, Bool.and_eq_true] at h
    exact ⟨by simp only [X.repl, X.d, (iha h.1).1, (ihb h.2).1], rfl⟩
  | ite a b d iha ihb ihd =>
    intro h
    simp only [X.under, Bool.and_eq_true] at h
    exact ⟨by simp only [X.repl, X.d, (iha h.1.1).1, (ihb h.1.2).1, (ihd h.2).1], rfl⟩
  | sel j a b iha ihb =>
    intro h
    simp only [X.under, Bool.and_eq_true] at h
    exact ⟨by simp only [X.repl, X.d, (iha h.1).1, (ihb h.2).1], rfl⟩
  | sub a b d iha ihb ihd =>
    intro h
    simp only [X.under, Bool.and_eq_true] at h
    exact ⟨by simp only [X.repl, X.d, (iha h.1.1).1, (ihb h.1.2).1, (ihd h.2).1], rfl⟩
  | snoc a b iha ihb =>
    intro h
    simp only [X.under, Bool.and_eq_true] at h
    exact ⟨by simp only [X.repl, X.d, (iha h.1).1, (ihb h.2).2], rfl⟩
  | upd j a b d iha ihb ihd =>
    intro h
    simp only [X.under, Bool.and_eq_true] at h
    exact ⟨by simp only [X.repl, X.d, (iha h.1.1).1, (ihb h.1.2).1, (ihd h.2).2], rfl⟩
  | rep a b iha ihb =>
    intro h
    simp only [X.under, Bool.and_eq_true] at h
    exact ⟨by simp only [X.repl, X.d, (iha h.1).1, (ihb h.2).2], rfl⟩
  | nth a b iha ihb =>
    intro h
    simp only [X.under, Bool.and_eq_true] at h
    exact ⟨by simp only [X.repl, X.d, (iha h.1).2, (ihb h.2).1], rfl⟩
  | app f as j iha =>
    intro h
    have ha := (iha h).2
    unfold X.repl
    split
    · rename_i hc
      simp only [Bool.and_eq_true] at hc
      have hj : j < k := by simpa using hc.1
      have e := X.beq_eq _ _ hc.2
      subst e
      exact ⟨by rw [repl_var hn hj]; rfl, rfl⟩
    · exact ⟨by simp only [X.d, ha], rfl⟩
  | dyn d as j ihd iha =>
    intro h
    simp only [X.under, Bool.and_eq_true] at h
    have hd := (ihd h.1).1
    have ha := (iha h.2).2
    unfold X.repl
    split
    · rename_i hc
      simp only [Bool.and_eq_true] at hc
      have hj : j < k := by simpa using hc.1
      have e := X.beq_eq _ _ hc.2
      subst e
      refine ⟨?_, rfl⟩
      rw [repl_var hn hj]
      simp only [X.outs, X.d]
      cases X.d Φ ρ d <;> simp
    · exact ⟨by simp only [X.d, hd, ha], rfl⟩
  | pk a iha =>
    intro h
    exact ⟨by simp only [X.repl, X.d, (iha h).2], rfl⟩
  | psel j a iha =>
    intro h
    exact ⟨by simp only [X.repl, X.d, (iha h).1], rfl⟩
  | clo f t a iha =>
    intro h
    exact ⟨by simp only [X.repl, X.d, (iha h).2], rfl⟩
end
end Go.RV
