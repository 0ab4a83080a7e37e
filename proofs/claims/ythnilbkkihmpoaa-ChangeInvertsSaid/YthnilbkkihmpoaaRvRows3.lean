/-
  RV, part 22: facts for rounds of loops, found by simp with omega; lists that loops gather.
-/
import Derived.Test.YthnilbkkihmpoaaRvRows2
namespace Go.RV
open Go.RowKit

theorem dle_t {a b : Int} (h : a ≤ b) : decide (a ≤ b) = true := decide_eq_true h
theorem dle_f {a b : Int} (h : b < a) : decide (a ≤ b) = false := decide_eq_false (by omega)
theorem dlt_t {a b : Int} (h : a < b) : decide (a < b) = true := decide_eq_true h
theorem dlt_f {a b : Int} (h : b ≤ a) : decide (a < b) = false := decide_eq_false (by omega)
theorem beq_t {a b : Int} (h : a = b) : (a == b) = true := by simp [h]
theorem beq_f {a b : Int} (h : a ≠ b) : (a == b) = false := by simp [h]
theorem w64' {n : Int} (h : -9223372036854775808 ≤ n ∧ n ≤ 9223372036854775807) : IntKind.i64.wrap n = n := w64 h
theorem suc_cast (n : Nat) : (n : Int) + 1 = ((n + 1 : Nat) : Int) := by omega
theorem pred_nat {n : Nat} (h : 0 < n) : ((n : Int) - 1).toNat = n - 1 := by omega
theorem suc_nat (n : Nat) : ((n : Int) + 1).toNat = n + 1 := by omega

def p0 : Pt := (0, 0)
def q0 : Bx := (0, 0, 0, 0)
theorem rowP {l : List Pt} {i : Nat} (h : i < l.length) : (l.map encP).getD i [] = encP (l.getD i p0) := row_get p0 h
theorem rowQ {l : List Bx} {i : Nat} (h : i < l.length) : (l.map encQ).getD i [] = encQ (l.getD i q0) := row_get q0 h
theorem rowI {l : List Int} {i : Nat} (h : i < l.length) : (l.map encI).getD i [] = encI (l.getD i 0) := row_get 0 h

/-- what a loop over i, i + 1, .., n - 1 gathers -/
def collN {α : Type} (f : Nat → List α) (n i : Nat) : List α := ((List.range n).drop i).flatMap f
theorem range_drop {n i : Nat} (h : i < n) : (List.range n).drop i = i :: (List.range n).drop (i + 1) := by
  rw [List.drop_eq_getElem_cons (by simpa using h)]
  simp
section
variable {α : Type} {f : Nat → List α} {n i : Nat}
theorem coll_next (h : i < n) (acc : List α) : acc ++ collN f n i = (acc ++ f i) ++ collN f n (i + 1) := by
  rw [collN, range_drop h, List.flatMap_cons, collN, List.append_assoc]
theorem coll_end (acc : List α) : acc ++ collN f n n = acc := by
  have : (List.range n).drop n = [] := List.drop_of_length_le (by simp)
  rw [collN, this]; simp
theorem coll_len {m : Nat} (hf : ∀ i, (f i).length ≤ m) : (collN f n i).length ≤ m * (n - i) := by
  have : ∀ l : List Nat, (l.flatMap f).length ≤ m * l.length := by
    intro l
    induction l with
    | nil => simp
    | cons a l ih =>
      have := hf a
      rw [List.flatMap_cons, List.length_append, List.length_cons, Nat.mul_add]
      omega
  have h := this ((List.range n).drop i)
  simpa [collN] using h
theorem coll_all {p : α → Prop} (h : ∀ i, i < n → ∀ a ∈ f i, p a) : ∀ a ∈ collN f n i, p a := by
  intro a ha
  obtain ⟨j, hj, hja⟩ := List.mem_flatMap.1 ha
  exact h j (by simpa using List.mem_of_mem_drop hj) a hja
end
/-- what a loop over i, i + 1, .., n - 1 makes of a state -/
def foldN {α : Type} (f : Nat → α → α) (n i : Nat) (s : α) : α := ((List.range n).drop i).foldl (fun s i => f i s) s
section
variable {α : Type} {f : Nat → α → α} {n i : Nat} {s : α}
theorem fold_next (h : i < n) : foldN f n i s = foldN f n (i + 1) (f i s) := by
  rw [foldN, range_drop h]; rfl
theorem fold_end : foldN f n n s = s := by
  have : (List.range n).drop n = [] := List.drop_of_length_le (by simp)
  rw [foldN, this]; rfl
end
theorem coll_congr {α : Type} {f g : Nat → List α} {n i : Nat} (h : ∀ j, i ≤ j → j < n → f j = g j) : collN f n i = collN g n i := by
  by_cases hi : i < n
  · rw [← List.nil_append (collN f n i), ← List.nil_append (collN g n i), coll_next hi, coll_next hi, h i (by omega) hi, coll_congr (i := i + 1) fun j h1 h2 => h j (by omega) h2]
  · have e : (List.range n).drop i = [] := List.drop_of_length_le (by simp; omega)
    simp [collN, e]
termination_by n - i

theorem any_scan {p : Nat → Bool} {hit miss : Nat → List D} {n i : Nat} (h : ∀ j, j < i → p j = false) (hi : i ≤ n) : (anyN p n = true ∧ ∃ j, i ≤ j ∧ j < n ∧ p j = true ∧ (∀ k, k < j → p k = false) ∧ scanN p hit miss (n - i) i = hit j) ∨ (anyN p n = false ∧ scanN p hit miss (n - i) i = miss n) := by
  rcases scan_cases (p := p) (hit := hit) (miss := miss) (n - i) i with ⟨j, h1, h2, h3, h4, h5⟩ | ⟨h1, h2⟩
  · refine .inl ⟨anyN_iff.2 ⟨j, by omega, h3⟩, j, h1, by omega, h3, fun k hk => ?_, h5⟩
    by_cases hki : k < i
    · exact h k hki
    · exact h4 k (by omega) hk
  · refine .inr ⟨anyN_false.2 fun j hj => ?_, by rw [h2]; congr 1; omega⟩
    by_cases hji : j < i
    · exact h j hji
    · exact h1 j (by omega) (by omega)
theorem getD_mem {α : Type} {l : List α} {i : Nat} (d0 : α) (h : i < l.length) : l.getD i d0 ∈ l := by
  simp [List.getD, h]
theorem filter_sub {α : Type} {p q : α → Bool} : ∀ (l : List α), (∀ a ∈ l, p a = true → q a = true) → (l.filter p).Sublist (l.filter q)
  | [], _ => List.Sublist.slnil
  | a :: l, h => by
    have ih := filter_sub l fun b hb => h b (List.mem_cons_of_mem _ hb)
    cases hp : p a with
    | true => simp [hp, h a (by simp) hp, ih]
    | false =>
      cases hq : q a with
      | true => simp only [List.filter_cons, hp, hq, if_true, Bool.false_eq_true, if_false]; exact ih.cons a
      | false => simp [hp, hq, ih]
theorem scan_two {p : Nat → Bool} (n : Nat) : (anyN p n = true ∧ ∃ j, j < n ∧ p j = true ∧ (∀ k, k < j → p k = false) ∧ ∀ hit miss, scanN p hit miss n 0 = hit j) ∨ (anyN p n = false ∧ ∀ hit miss, scanN p hit miss n 0 = miss n) := by
  have g : ∀ (m i : Nat), (∃ j, i ≤ j ∧ j < i + m ∧ p j = true ∧ (∀ k, i ≤ k → k < j → p k = false) ∧ ∀ hit miss, scanN p hit miss m i = hit j) ∨ ((∀ j, i ≤ j → j < i + m → p j = false) ∧ ∀ hit miss, scanN p hit miss m i = miss (i + m)) := by
    intro m
    induction m with
    | zero => intro i; exact .inr ⟨fun j h1 h2 => by omega, fun _ _ => rfl⟩
    | succ m ih =>
      intro i
      cases hp : p i with
      | true => exact .inl ⟨i, Nat.le_refl _, by omega, hp, fun k h1 h2 => by omega, fun _ _ => by simp [scanN, hp]⟩
      | false =>
        rcases ih (i + 1) with ⟨j, h1, h2, h3, h4, h5⟩ | ⟨h1, h2⟩
        · refine .inl ⟨j, by omega, by omega, h3, fun k h6 h7 => ?_, fun _ _ => by simp [scanN, hp, h5]⟩
          by_cases e : k = i
          · rw [e]; exact hp
          · exact h4 k (by omega) h7
        · refine .inr ⟨fun j h3 h4 => ?_, fun hit miss => by simp only [scanN, hp, Bool.false_eq_true, if_false, h2]; congr 1; omega⟩
          by_cases e : j = i
          · rw [e]; exact hp
          · exact h1 j (by omega) (by omega)
  rcases g n 0 with ⟨j, h1, h2, h3, h4, h5⟩ | ⟨h1, h2⟩
  · exact .inl ⟨anyN_iff.2 ⟨j, by omega, h3⟩, j, by omega, h3, fun k hk => h4 k (by omega) hk, h5⟩
  · exact .inr ⟨anyN_false.2 fun j hj => h1 j (by omega) (by omega), fun hit miss => by rw [h2, Nat.zero_add]⟩
/-- the index of the first place with p, or -1 -/
def ixD (p : Nat → Bool) (n : Nat) : List D := scanN p (fun j => [.i (j : Int)]) (fun _ => [.i (-1)]) n 0
/-- the loop of slices.IndexFunc -/
def ixL (p : Nat → Bool) (v : D) (n i : Nat) : List D := scanN p (fun j => [.i 0, .i (j : Int), .i (j : Int)]) (fun j => [.i 1, v, .i (j : Int)]) (n - i) i
theorem shr1 (x : Int) : x.fdiv (2 ^ Nat.min (Int.toNat 1) IntKind.i64.bits) = x / 2 := by
  show x.fdiv 2 = x / 2
  exact Int.fdiv_eq_ediv_of_nonneg _ (by omega)
theorem tdivp {a b : Int} (h : 0 ≤ a) : a.tdiv b = a / b := Int.tdiv_eq_ediv_of_nonneg h
end Go.RV
