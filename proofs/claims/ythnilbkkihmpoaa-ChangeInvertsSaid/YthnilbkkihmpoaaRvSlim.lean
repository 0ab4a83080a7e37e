/-
  RV, part 16b: conditions without what is known already.
-/
import Derived.Test.YthnilbkkihmpoaaRvCode
namespace Go.RV
open Go.RowKit

theorem X.d_ext {Φ : FuncId → List D → List D} {ρ δ : List D} {n : Nat} (hn : n = ρ.length) : ∀ e : X, e.under n = true → e.d Φ (ρ ++ δ) = e.d Φ ρ ∧ e.ds Φ (ρ ++ δ) = e.ds Φ ρ := by
  intro e
  induction e with
  | n z => exact fun _ => ⟨rfl, rfl⟩
  | t b => exact fun _ => ⟨rfl, rfl⟩
  | str s => exact fun _ => ⟨rfl, rfl⟩
  | nil => exact fun _ => ⟨rfl, rfl⟩
  | lnil => exact fun _ => ⟨rfl, rfl⟩
  | var i =>
    intro h
    refine ⟨?_, rfl⟩
    have hi : i < ρ.length := by rw [← hn]; simpa [X.under] using h
    simp only [X.d, List.getD]
    rw [List.getElem?_append_left hi]
  | cons a b iha ihb =>
    intro h
    simp only [X.under, Bool.and_eq_true] at h
    exact ⟨rfl, by simp only [X.ds, (iha h.1).1, (ihb h.2).2]⟩
  | lcons a b iha ihb =>
    intro h
    simp only [X.under, Bool.and_eq_true] at h
    exact ⟨by simp only [X.d, (iha h.1).2, (ihb h.2).1], rfl⟩
  | un o a iha =>
    intro h
    exact ⟨by simp only [X.d, (iha h).1], rfl⟩
  | bin o a b iha ihb =>
    intro h
    simp only [X.under, Bool.and_eq_true] at h
    exact ⟨by simp only [X.d, (iha h.1).1, (ihb h.2).1], rfl⟩
  | ite a b d iha ihb ihd =>
    intro h
    simp only [X.under, Bool.and_eq_true] at h
    exact ⟨by simp only [X.d, (iha h.1.1).1, (ihb h.1.2).1, (ihd h.2).1], rfl⟩
  | sel j a b iha ihb =>
    intro h
    simp only [X.under, Bool.and_eq_true] at h
    exact ⟨by simp only [X.d, (iha h.1).1, (ihb h.2).1], rfl⟩
  | sub a b d iha ihb ihd =>
    intro h
    simp only [X.under, Bool.and_eq_true] at h
    exact ⟨by simp only [X.d, (iha h.1.1).1, (ihb h.1.2).1, (ihd h.2).1], rfl⟩
  | snoc a b iha ihb =>
    intro h
    simp only [X.under, Bool.and_eq_true] at h
    exact ⟨by simp only [X.d, (iha h.1).1, (ihb h.2).2], rfl⟩
  | upd j a b d iha ihb ihd =>
    intro h
    simp only [X.under, Bool.and_eq_true] at h
    exact ⟨by simp only [X.d, (iha h.1.1).1, (ihb h.1.2).1, (ihd h.2).2], rfl⟩
  | rep a b iha ihb =>
    intro h
    simp only [X.under, Bool.and_eq_true] at h
    exact ⟨by simp only [X.d, (iha h.1).1, (ihb h.2).2], rfl⟩
  | nth a b iha ihb =>
    intro h
    simp only [X.under, Bool.and_eq_true] at h
    exact ⟨by simp only [X.d, (iha h.1).2, (ihb h.2).1], rfl⟩
  | app f as j iha =>
    intro h
    exact ⟨by simp only [X.d, (iha h).2], rfl⟩
  | dyn d as j ihd iha =>
    intro h
    simp only [X.under, Bool.and_eq_true] at h
    exact ⟨by simp only [X.d, (ihd h.1).1, (iha h.2).2], rfl⟩
  | pk a iha =>
    intro h
    exact ⟨by simp only [X.d, (iha h).2], rfl⟩
  | psel j a iha =>
    intro h
    exact ⟨by simp only [X.d, (iha h).1], rfl⟩
  | clo f t a iha =>
    intro h
    exact ⟨by simp only [X.d, (iha h).2], rfl⟩

/-- a condition without double negations -/
def X.nn : X → X
  | .un .not a => match X.nn a with
    | .un .not b => b
    | .t b => .t (!b)
    | b => .un .not b
  | .ite a b c => .ite (X.nn a) (X.nn b) (X.nn c)
  | e => e

theorem X.nn_bool {Φ : FuncId → List D → List D} {ρ : List D} : ∀ e : X, ((X.nn e).d Φ ρ).bool = (e.d Φ ρ).bool := by
  intro e
  induction e with
  | un o a iha =>
    cases o with
    | not =>
      unfold X.nn
      split
      · rename_i b hb
        rw [hb] at iha
        simp only [X.d, Op1.ev, D.bool_b] at iha ⊢
        rw [← iha, Bool.not_not]
      · rename_i b hb
        rw [hb] at iha
        simp only [X.d, Op1.ev, D.bool_b] at iha ⊢
        rw [← iha]
      · simp only [X.d, Op1.ev, D.bool_b, iha]
    | _ => rfl
  | ite a b c iha ihb ihc =>
    simp only [X.nn, X.d, iha]
    split
    · exact ihb
    · exact ihc
  | _ => rfl

def Nd.beq : Nd → Nd → Bool
  | .c a, .c b => X.beq a b
  | .pre f a, .pre g b => f == g && X.beq a b
  | _, _ => false
theorem Nd.beq_eq : ∀ {a b : Nd}, Nd.beq a b = true → a = b
  | .c a, .c b, h => by rw [X.beq_eq _ _ h]
  | .pre f a, .pre g b, h => by
    simp only [Nd.beq, Bool.and_eq_true, beq_iff_eq] at h
    rw [h.1, X.beq_eq _ _ h.2]
  | .c _, .pre _ _, h => by cases h
  | .pre _ _, .c _, h => by cases h
  | .pg _ _ _, _, h => by cases h
  | .ct _ _ _, _, h => by cases h
  | .c _, .pg _ _ _, h => by cases h
  | .c _, .ct _ _ _, h => by cases h
  | .pre _ _, .pg _ _ _, h => by cases h
  | .pre _ _, .ct _ _ _, h => by cases h

def ndTriv : Nd → Bool
  | .c (.bin .le (.n a) (.n b)) => decide (a ≤ b)
  | .c (.bin .lt (.n a) (.n b)) => decide (a < b)
  | .c (.bin .le (.n z) (.un .len _)) => decide (z ≤ 0)
  | _ => false
theorem ndTriv_holds {Φ : FuncId → List D → List D} {ρ : List D} {pre : FuncId → List D → Prop} {d : Nd} (h : ndTriv d = true) : d.holds pre Φ ρ := by
  unfold ndTriv at h
  split at h
  · exact h
  · exact h
  · have h' := of_decide_eq_true h
    exact decide_eq_true (Int.le_trans h' (Int.natCast_nonneg _))
  · cases h

/-- the parts of a condition that holds -/
def X.conj : X → List X
  | .ite a b (.t false) => X.conj a ++ X.conj b
  | e => [e]
theorem X.conj_holds {Φ : FuncId → List D → List D} {ρ : List D} : ∀ {e : X}, (e.d Φ ρ).bool = true → ∀ c ∈ X.conj e, (c.d Φ ρ).bool = true := by
  intro e
  induction e with
  | ite a b c iha ihb ihc =>
    intro h x hx
    unfold X.conj at hx
    split at hx
    · rename_i a' b' he
      cases he
      simp only [X.d] at h
      split at h
      · rename_i ha
        rcases List.mem_append.1 hx with hx | hx
        · exact iha ha x hx
        · exact ihb h x hx
      · simp at h
    · simp only [List.mem_singleton] at hx
      subst hx
      exact h
  | _ =>
    intro h x hx
    simp only [X.conj, List.mem_singleton] at hx
    subst hx
    exact h
/-- the parts of a condition that fails: each fails -/
def X.disj : X → List X
  | .ite a (.t true) b => X.disj a ++ X.disj b
  | e => [e]
theorem X.disj_fails {Φ : FuncId → List D → List D} {ρ : List D} : ∀ {e : X}, (e.d Φ ρ).bool = false → ∀ c ∈ X.disj e, (c.d Φ ρ).bool = false := by
  intro e
  induction e with
  | ite a b c iha ihb ihc =>
    intro h x hx
    unfold X.disj at hx
    split at hx
    · rename_i a' b' he
      cases he
      simp only [X.d] at h
      split at h
      · simp at h
      · rename_i ha
        rcases List.mem_append.1 hx with hx | hx
        · exact iha (by simpa using ha) x hx
        · exact ihc h x hx
    · simp only [List.mem_singleton] at hx
      subst hx
      exact h
  | _ =>
    intro h x hx
    simp only [X.disj, List.mem_singleton] at hx
    subst hx
    exact h

def factsT (n : Nat) (c : X) : List (X × Nd) := ((X.conj c).filter (X.under n)).map fun e => (tt, .c e)
def factsF (n : Nat) (c : X) : List (X × Nd) := ((X.disj c).filter (X.under n)).map fun e => (tt, .c (X.nn (.un .not e)))

theorem X.nn_under {n : Nat} : ∀ {e : X}, e.under n = true → (X.nn e).under n = true := by
  intro e
  induction e with
  | un o a iha =>
    intro h
    cases o with
    | not =>
      have ha := iha h
      unfold X.nn
      split
      · rename_i b hb
        rw [hb] at ha
        exact ha
      · rfl
      · exact ha
    | _ => exact h
  | ite a b c iha ihb ihc =>
    intro h
    simp only [X.under, Bool.and_eq_true] at h
    simp only [X.nn, X.under, iha h.1.1, ihb h.1.2, ihc h.2, Bool.and_self]
  | _ => exact fun h => h

/-- what is known decides conditions -/
def knows (known : List (X × Nd)) (c : X) : Bool := known.any fun k => isTt k.1 && Nd.beq k.2 (.c c)
def eqConst (x : X) : List (X × Nd) → Option Int
  | [] => none
  | (g, .c (.bin .eq y (.n z))) :: ks => if isTt g && X.beq y x then some z else eqConst x ks
  | _ :: ks => eqConst x ks
def decAtom (known : List (X × Nd)) : X → Option Bool
  | .bin .eq x (.n z) => (eqConst x known).map fun k => k == z
  | .bin .le (.n z) x => (eqConst x known).map fun k => decide (z ≤ k)
  | .bin .le x (.n z) => (eqConst x known).map fun k => decide (k ≤ z)
  | .bin .lt (.n z) x => (eqConst x known).map fun k => decide (z < k)
  | .bin .lt x (.n z) => (eqConst x known).map fun k => decide (k < z)
  | _ => none
def decIte : Option Bool → Option Bool → Option Bool → Option Bool
  | some true, b, _ => b
  | some false, _, c => c
  | none, some u, some v => if u == v then some u else none
  | none, _, _ => none
theorem decIte_sound {x y z : D} {a b c : Option Bool} {r : Bool} (ha : ∀ u, a = some u → x.bool = u) (hb : ∀ u, b = some u → y.bool = u) (hc : ∀ u, c = some u → z.bool = u) (h : decIte a b c = some r) : (if x.bool = true then y else z).bool = r := by
  cases a with
  | some u =>
    have := ha u rfl
    cases u with
    | true => rw [if_pos this]; exact hb r h
    | false => rw [if_neg (by rw [this]; decide)]; exact hc r h
  | none =>
    cases b with
    | none => cases h
    | some u =>
      cases c with
      | none => cases h
      | some v =>
        simp only [decIte] at h
        split at h
        · rename_i huv
          simp only [beq_iff_eq] at huv
          simp only [Option.some.injEq] at h
          subst huv
          subst h
          split
          · exact hb _ rfl
          · exact hc _ rfl
        · cases h
def X.decB (known : List (X × Nd)) (c : X) : Option Bool :=
  if knows known c then some true else if knows known (X.nn (.un .not c)) then some false else match c with
  | .t b => some b
  | .un .not a => (X.decB known a).map (!·)
  | .ite a b c => decIte (X.decB known a) (X.decB known b) (X.decB known c)
  | c => decAtom known c

def VT.slim (n : Nat) (known : List (X × Nd)) : VT → VT
  | .ret as => .ret as
  | .need g d t =>
    let g' := X.nn g
    if X.decB known g' == some false || ndTriv d || known.any (fun k => Nd.beq k.2 d && (isTt k.1 || X.beq k.1 g')) then VT.slim n known t
    else .need g' d (VT.slim n (if g'.under n && d.under n then (g', d) :: known else known) t)
  | .ite c a b => match X.decB known (X.nn c) with
    | some true => VT.slim n known a
    | some false => VT.slim n known b
    | none => .ite (X.nn c) (VT.slim n (factsT n (X.nn c) ++ known) a) (VT.slim n (factsF n (X.nn c) ++ known) b)
  | .lt c k t => .lt c k (VT.slim (n + k) known t)
  | .bad => .bad

def KnownOk (Φ : FuncId → List D → List D) (pre : FuncId → List D → Prop) (n : Nat) (ρ : List D) (known : List (X × Nd)) : Prop :=
  ∀ k ∈ known, k.1.under n = true ∧ k.2.under n = true ∧ ((k.1.d Φ ρ).bool = true → k.2.holds pre Φ ρ)

theorem Nd.holds_ext {Φ : FuncId → List D → List D} {pre : FuncId → List D → Prop} {ρ δ : List D} {n : Nat} (hn : n = ρ.length) {d : Nd} (hu : d.under n = true) (h : d.holds pre Φ ρ) : d.holds pre Φ (ρ ++ δ) := by
  cases d with
  | c x => simp only [Nd.holds, (X.d_ext hn x hu).1] at h ⊢; exact h
  | pre f as => simp only [Nd.holds, (X.d_ext hn as hu).2] at h ⊢; exact h
  | pg g f as =>
    simp only [Nd.under, Bool.and_eq_true] at hu
    simp only [Nd.holds, (X.d_ext hn g hu.1).1, (X.d_ext hn as hu.2).2] at h ⊢
    exact h
  | ct g cts e =>
    simp only [Nd.under, Bool.and_eq_true] at hu
    simp only [Nd.holds, (X.d_ext hn g hu.1).1, (X.d_ext hn e hu.2).1] at h ⊢
    exact h

theorem under_mono {n m : Nat} (h : n ≤ m) : ∀ {e : X}, e.under n = true → e.under m = true := by
  intro e
  induction e with
  | var i => intro h1; simp only [X.under, Nat.blt_eq] at h1 ⊢; omega
  | n z => exact fun _ => rfl
  | t b => exact fun _ => rfl
  | str s => exact fun _ => rfl
  | nil => exact fun _ => rfl
  | lnil => exact fun _ => rfl
  | un o a iha => exact fun h => iha h
  | pk a iha => exact fun h => iha h
  | psel j a iha => exact fun h => iha h
  | clo f t a iha => exact fun h => iha h
  | app f a j iha => exact fun h => iha h
  | cons a b iha ihb => intro h; simp only [X.under, Bool.and_eq_true] at h ⊢; exact ⟨iha h.1, ihb h.2⟩
  | lcons a b iha ihb => intro h; simp only [X.under, Bool.and_eq_true] at h ⊢; exact ⟨iha h.1, ihb h.2⟩
  | snoc a b iha ihb => intro h; simp only [X.under, Bool.and_eq_true] at h ⊢; exact ⟨iha h.1, ihb h.2⟩
  | rep a b iha ihb => intro h; simp only [X.under, Bool.and_eq_true] at h ⊢; exact ⟨iha h.1, ihb h.2⟩
  | nth a b iha ihb => intro h; simp only [X.under, Bool.and_eq_true] at h ⊢; exact ⟨iha h.1, ihb h.2⟩
  | bin o a b iha ihb => intro h; simp only [X.under, Bool.and_eq_true] at h ⊢; exact ⟨iha h.1, ihb h.2⟩
  | sel j a b iha ihb => intro h; simp only [X.under, Bool.and_eq_true] at h ⊢; exact ⟨iha h.1, ihb h.2⟩
  | dyn a b j iha ihb => intro h; simp only [X.under, Bool.and_eq_true] at h ⊢; exact ⟨iha h.1, ihb h.2⟩
  | ite a b c iha ihb ihc => intro h; simp only [X.under, Bool.and_eq_true] at h ⊢; exact ⟨⟨iha h.1.1, ihb h.1.2⟩, ihc h.2⟩
  | sub a b c iha ihb ihc => intro h; simp only [X.under, Bool.and_eq_true] at h ⊢; exact ⟨⟨iha h.1.1, ihb h.1.2⟩, ihc h.2⟩
  | upd j a b c iha ihb ihc => intro h; simp only [X.under, Bool.and_eq_true] at h ⊢; exact ⟨⟨iha h.1.1, ihb h.1.2⟩, ihc h.2⟩

theorem Nd.under_mono {n m : Nat} (h : n ≤ m) {d : Nd} (hu : d.under n = true) : d.under m = true := by
  cases d with
  | c x => exact Go.RV.under_mono h hu
  | pre f as => exact Go.RV.under_mono h hu
  | pg g f as =>
    simp only [Nd.under, Bool.and_eq_true] at hu ⊢
    exact ⟨Go.RV.under_mono h hu.1, Go.RV.under_mono h hu.2⟩
  | ct g cts e =>
    simp only [Nd.under, Bool.and_eq_true] at hu ⊢
    exact ⟨Go.RV.under_mono h hu.1, Go.RV.under_mono h hu.2⟩

theorem KnownOk.ext {Φ : FuncId → List D → List D} {pre : FuncId → List D → Prop} {n k : Nat} {ρ δ : List D} {known : List (X × Nd)} (hn : n = ρ.length) (h : KnownOk Φ pre n ρ known) : KnownOk Φ pre (n + k) (ρ ++ δ) known := fun x hx =>
  let ⟨h1, h2, h3⟩ := h x hx
  ⟨under_mono (Nat.le_add_right _ _) h1, Nd.under_mono (Nat.le_add_right _ _) h2, fun hb => Nd.holds_ext hn h2 (h3 (by rw [(X.d_ext hn x.1 h1).1] at hb; exact hb))⟩

theorem KnownOk.append {Φ : FuncId → List D → List D} {pre : FuncId → List D → Prop} {n : Nat} {ρ : List D} {k1 k2 : List (X × Nd)} (h1 : KnownOk Φ pre n ρ k1) (h2 : KnownOk Φ pre n ρ k2) : KnownOk Φ pre n ρ (k1 ++ k2) := fun x hx => (List.mem_append.1 hx).elim (h1 x) (h2 x)

theorem factsT_ok {Φ : FuncId → List D → List D} {pre : FuncId → List D → Prop} {n : Nat} {ρ : List D} {c : X} (h : (c.d Φ ρ).bool = true) : KnownOk Φ pre n ρ (factsT n c) := by
  intro x hx
  simp only [factsT, List.mem_map, List.mem_filter] at hx
  obtain ⟨e, ⟨h1, h2⟩, rfl⟩ := hx
  exact ⟨rfl, h2, fun _ => X.conj_holds h e h1⟩
theorem factsF_ok {Φ : FuncId → List D → List D} {pre : FuncId → List D → Prop} {n : Nat} {ρ : List D} {c : X} (h : (c.d Φ ρ).bool = false) : KnownOk Φ pre n ρ (factsF n c) := by
  intro x hx
  simp only [factsF, List.mem_map, List.mem_filter] at hx
  obtain ⟨e, ⟨h1, h2⟩, rfl⟩ := hx
  refine ⟨rfl, X.nn_under (e := .un .not e) h2, fun _ => ?_⟩
  show ((X.nn (.un .not e)).d Φ ρ).bool = true
  rw [X.nn_bool]
  simp only [X.d, Op1.ev, D.bool_b, X.disj_fails h e h1, Bool.not_false]

theorem knows_sound {Φ : FuncId → List D → List D} {pre : FuncId → List D → Prop} {n : Nat} {ρ : List D} {known : List (X × Nd)} (hk : KnownOk Φ pre n ρ known) {c : X} (h : knows known c = true) : (c.d Φ ρ).bool = true := by
  obtain ⟨k, h1, h2⟩ := List.any_eq_true.1 h
  simp only [Bool.and_eq_true] at h2
  have := (hk k h1).2.2 (isTt_sound h2.1)
  rw [Nd.beq_eq h2.2] at this
  exact this
theorem eqConst_sound {Φ : FuncId → List D → List D} {pre : FuncId → List D → Prop} {n : Nat} {ρ : List D} {x : X} {z : Int} : ∀ {known : List (X × Nd)}, KnownOk Φ pre n ρ known → eqConst x known = some z → (x.d Φ ρ).int = z
  | [], _, h => by cases h
  | k :: ks, hk, h => by
    have hks : KnownOk Φ pre n ρ ks := fun y hy => hk y (List.mem_cons_of_mem _ hy)
    unfold eqConst at h
    split at h
    · cases h
    · rename_i g y z' ks' he
      simp only [List.cons.injEq] at he
      obtain ⟨rfl, rfl⟩ := he
      split at h
      · rename_i hc
        simp only [Bool.and_eq_true] at hc
        simp only [Option.some.injEq] at h
        subst h
        have := (hk _ List.mem_cons_self).2.2 (isTt_sound hc.1)
        rw [← X.beq_eq _ _ hc.2]
        simpa [Nd.holds, X.d, Op2.ev] using this
      · exact eqConst_sound hks h
    · rename_i he
      simp only [List.cons.injEq] at he
      obtain ⟨rfl, rfl⟩ := he
      exact eqConst_sound hks h
theorem decAtom_sound {Φ : FuncId → List D → List D} {pre : FuncId → List D → Prop} {n : Nat} {ρ : List D} {known : List (X × Nd)} (hk : KnownOk Φ pre n ρ known) {c : X} {b : Bool} (h : decAtom known c = some b) : (c.d Φ ρ).bool = b := by
  unfold decAtom at h
  split at h
  all_goals first
    | (cases h; done)
    | (simp only [Option.map_eq_some_iff] at h
       obtain ⟨k, h1, rfl⟩ := h
       have := eqConst_sound hk h1
       simp only [X.d, Op2.ev, D.bool_b, D.int_i, this])
theorem X.decB_sound {Φ : FuncId → List D → List D} {pre : FuncId → List D → Prop} {n : Nat} {ρ : List D} {known : List (X × Nd)} (hk : KnownOk Φ pre n ρ known) : ∀ (c : X) {b : Bool}, X.decB known c = some b → (c.d Φ ρ).bool = b := by
  have base : ∀ (c : X) {b : Bool} (r : Option Bool), (r = some b → (c.d Φ ρ).bool = b) → (if knows known c then some true else if knows known (X.nn (.un .not c)) then some false else r) = some b → (c.d Φ ρ).bool = b := by
    intro c b r hr h
    split at h
    · simp only [Option.some.injEq] at h; subst h; exact knows_sound hk ‹_›
    · split at h
      · rename_i hn
        simp only [Option.some.injEq] at h
        subst h
        have := knows_sound hk hn
        rw [X.nn_bool] at this
        simpa [X.d, Op1.ev] using this
      · exact hr h
  intro c
  induction c with
  | t x =>
    intro b h
    unfold X.decB at h
    exact base (.t x) (some x) (fun e => by simp only [Option.some.injEq] at e; subst e; rfl) h
  | un o a iha =>
    intro b h
    unfold X.decB at h
    cases o with
    | not => exact base (.un .not a) ((X.decB known a).map (!·)) (fun e => by
        simp only [Option.map_eq_some_iff] at e
        obtain ⟨u, h1, rfl⟩ := e
        simp only [X.d, Op1.ev, D.bool_b, iha h1]) h
    | _ => exact base _ _ (fun e => decAtom_sound hk e) h
  | ite x y z ihx ihy ihz =>
    intro b h
    unfold X.decB at h
    exact base (.ite x y z) _ (fun e => decIte_sound (fun _ => ihx) (fun _ => ihy) (fun _ => ihz) e) h
  | _ =>
    intro b h
    unfold X.decB at h
    exact base _ _ (fun e => decAtom_sound hk e) h

theorem VT.slim_ok {Φ : FuncId → List D → List D} {pre : FuncId → List D → Prop} {leaf : List D → Prop} : ∀ {t : VT} {n : Nat} {ρ : List D} {known : List (X × Nd)}, n = ρ.length → KnownOk Φ pre n ρ known → (t.slim n known).ok Φ ρ pre leaf → t.ok Φ ρ pre leaf
  | .ret _, _, _, _, _, _, h => h
  | .need g d t, n, ρ, known, hn, hk, h => by
    unfold VT.slim at h
    simp only at h
    split at h
    · rename_i hc
      refine ⟨fun hg => ?_, VT.slim_ok hn hk h⟩
      simp only [Bool.or_eq_true] at hc
      rcases hc with (hc | hc) | hc
      · have h1 := X.decB_sound hk _ (by simpa using hc : X.decB known (X.nn g) = some false)
        rw [X.nn_bool, hg] at h1
        cases h1
      · exact ndTriv_holds hc
      · obtain ⟨k, hk1, hk2⟩ := List.any_eq_true.1 hc
        simp only [Bool.and_eq_true, Bool.or_eq_true] at hk2
        obtain ⟨h1, h2, h3⟩ := hk k hk1
        have e := Nd.beq_eq hk2.1
        rw [← e]
        refine h3 ?_
        rcases hk2.2 with h4 | h4
        · exact isTt_sound h4
        · rw [X.beq_eq _ _ h4, X.nn_bool]; exact hg
    · obtain ⟨h1, h2⟩ := h
      have h1' : (g.d Φ ρ).bool = true → d.holds pre Φ ρ := fun hg => h1 (by rw [X.nn_bool]; exact hg)
      refine ⟨h1', VT.slim_ok hn ?_ h2⟩
      split
      · rename_i hu
        simp only [Bool.and_eq_true] at hu
        intro x hx
        cases hx with
        | head => exact ⟨hu.1, hu.2, h1⟩
        | tail _ hx => exact hk x hx
      · exact hk
  | .ite c a b, n, ρ, known, hn, hk, h => by
    unfold VT.slim at h
    unfold VT.ok
    split at h
    · rename_i hd
      have := X.decB_sound hk _ hd
      rw [X.nn_bool] at this
      rw [if_pos this]
      exact VT.slim_ok hn hk h
    · rename_i hd
      have := X.decB_sound hk _ hd
      rw [X.nn_bool] at this
      rw [if_neg (by rw [this]; simp)]
      exact VT.slim_ok hn hk h
    · unfold VT.ok at h
      rw [X.nn_bool] at h
      split
      · rename_i hc
        rw [if_pos hc] at h
        exact VT.slim_ok hn (KnownOk.append (factsT_ok (by rw [X.nn_bool]; exact hc)) hk) h
      · rename_i hc
        rw [if_neg hc] at h
        exact VT.slim_ok hn (KnownOk.append (factsF_ok (by rw [X.nn_bool]; simpa using hc)) hk) h
  | .lt c k t, n, ρ, known, hn, hk, h => by
    unfold VT.slim VT.ok at h
    unfold VT.ok
    exact VT.slim_ok (by simp [hn]) (hk.ext hn) h
  | .bad, _, _, _, _, _, h => h
end Go.RV
