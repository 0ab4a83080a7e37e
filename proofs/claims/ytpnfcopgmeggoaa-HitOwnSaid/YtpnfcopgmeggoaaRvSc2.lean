/-
  Items and scenes as raw data: what is valid, bounds, what is hit, what lies in a box.
-/
import Derived.Test.YtpnfcopgmeggoaaRvSc1
namespace Go.RV
open Go.RowKit

def sameQ (a b : Bx) : Bool := (a.1 == b.1) && ((a.2.1 == b.2.1) && ((a.2.2.1 == b.2.2.1) && (a.2.2.2 == b.2.2.2)))
theorem sameQ_iff {a b : Bx} : sameQ a b = true ↔ a = b := by
  obtain ⟨a1, a2, a3, a4⟩ := a
  obtain ⟨b1, b2, b3, b4⟩ := b
  simp [sameQ]
theorem sameQ_symm (a b : Bx) : sameQ a b = sameQ b a := by
  rw [Bool.eq_iff_iff, sameQ_iff, sameQ_iff]; exact eq_comm
abbrev z4 : Bx := (0, 0, 0, 0)

/-! ### items -/
def knB (x : List D) : Bool := decide (1 ≤ cI x 0) && decide (cI x 0 ≤ 4)
def usedB (x : List D) : Bool := !(!(cI x 0 == 4) && !(cS x 7 == ⟨#[]⟩)) && (if cI x 0 = 3 then sameQ (rQ x 2) z4 else ((cL x 6).length : Int) == 0)
def shpB (x : List D) : Bool := if cI x 0 = 3 then pathB (cL x 6) else bxQ (rQ x 2)
def itemE (x : List D) : Int :=
  if (knB x && usedB x && !decide (cI x 1 < 0)) = true then
    (if shpB x = true then (if (plainB (cS x 7) && !decide (32 < ((cS x 7).size : Int))) = true then 0 else 7) else 3)
  else 1
def ibox (x : List D) : Option Bx := if cI x 0 = 3 then (if pathB (cL x 6) = true then some (bndQ (cL x 6)) else none) else (if (knB x && bxQ (rQ x 2)) = true then some (rQ x 2) else none)
def stepB (s : Bool × Bx) : Option Bx → Bool × Bx
  | none => s
  | some b => if s.1 = true then (true, join s.2 b) else (true, b)
def foldB (I : List (List D)) (i : Nat) (s : Bool × Bx) : Bool × Bx := foldN (fun j s => stepB s (ibox (el I j))) I.length i s
def bndS (I : List (List D)) : Bx := (foldB I 0 (false, z4)).2
def validS (I : List (List D)) (b : Bx) : Int := if 2048 < (I.length : Int) then 2 else if fe (fun j => itemE (el I j)) I.length = 0 then (if sameQ (bndS I) b = true then 0 else 13) else fe (fun j => itemE (el I j)) I.length
def ownQ (x : List D) : Bx := if cI x 0 = 3 then bndQ (cL x 6) else rQ x 2
theorem item_ok {x : List D} (h : itemE x = 0) : ibox x = some (ownQ x) ∧ bxQ (ownQ x) = true := by
  unfold itemE at h
  split at h
  · rename_i h1
    simp only [Bool.and_eq_true] at h1
    split at h
    · rename_i h2
      unfold ibox ownQ
      unfold shpB at h2
      by_cases hk : cI x 0 = 3
      · rw [if_pos hk] at h2 ⊢
        rw [if_pos hk, if_pos h2]
        exact ⟨rfl, bndQ_ok h2⟩
      · rw [if_neg hk] at h2 ⊢
        rw [if_neg hk, h1.1.1, h2]
        exact ⟨rfl, rfl⟩
    · cases h
  · cases h
theorem join_ok {a b : Bx} (ha : bxQ a = true) (hb : bxQ b = true) : bxQ (join a b) = true := by
  simp only [bxQ, bxB_iff, join] at ha hb ⊢; omega
/-- the box a lies in the box b -/
def subQ (a b : Bx) : Prop := b.1 ≤ a.1 ∧ a.2.2.1 ≤ b.2.2.1 ∧ b.2.1 ≤ a.2.1 ∧ a.2.2.2 ≤ b.2.2.2
theorem subQ_refl (a : Bx) : subQ a a := ⟨Int.le_refl _, Int.le_refl _, Int.le_refl _, Int.le_refl _⟩
theorem subQ.trans {a b c : Bx} (h : subQ a b) (h' : subQ b c) : subQ a c := by unfold subQ at *; omega
theorem subQ_l (a b : Bx) : subQ a (join a b) := by unfold subQ join; simp only; omega
theorem subQ_r (a b : Bx) : subQ b (join a b) := by unfold subQ join; simp only; omega
theorem foldB_ok {I : List (List D)} (h : ∀ j, j < I.length → itemE (el I j) = 0) : ∀ (n i : Nat) (s : Bool × Bx), I.length - i = n → i ≤ I.length → bxQ s.2 = true →
    bxQ (foldB I i s).2 = true ∧ (s.1 = true → subQ s.2 (foldB I i s).2) ∧ ∀ j, i ≤ j → j < I.length → subQ (ownQ (el I j)) (foldB I i s).2
  | 0, i, s, hn, hi, hs => by
    have e : i = I.length := by omega
    subst e
    rw [foldB, fold_end]
    exact ⟨hs, fun _ => subQ_refl _, fun j h1 h2 => by omega⟩
  | n + 1, i, s, hn, hi, hs => by
    have hi' : i < I.length := by omega
    obtain ⟨h1, h2⟩ := item_ok (h i hi')
    rw [foldB, fold_next hi', h1]
    by_cases hf : s.1 = true
    · have e : stepB s (some (ownQ (el I i))) = (true, join s.2 (ownQ (el I i))) := by simp only [stepB, if_pos hf]
      rw [e]
      obtain ⟨k1, k2, k3⟩ := foldB_ok h n (i + 1) (true, join s.2 (ownQ (el I i))) (by omega) hi' (join_ok hs h2)
      refine ⟨k1, fun _ => (subQ_l _ _).trans (k2 rfl), fun j g1 g2 => ?_⟩
      by_cases ej : j = i
      · subst ej; exact (subQ_r _ _).trans (k2 rfl)
      · exact k3 j (by omega) g2
    · have e : stepB s (some (ownQ (el I i))) = (true, ownQ (el I i)) := by simp only [stepB, if_neg hf]
      rw [e]
      obtain ⟨k1, k2, k3⟩ := foldB_ok h n (i + 1) (true, ownQ (el I i)) (by omega) hi' h2
      refine ⟨k1, fun hc => absurd hc hf, fun j g1 g2 => ?_⟩
      by_cases ej : j = i
      · subst ej; exact k2 rfl
      · exact k3 j (by omega) g2
theorem validS_iff {I : List (List D)} {b : Bx} : validS I b = 0 ↔ I.length ≤ 2048 ∧ (∀ j, j < I.length → itemE (el I j) = 0) ∧ bndS I = b := by
  unfold validS
  split
  · constructor
    · intro h; cases h
    · rintro ⟨h, _⟩; omega
  · split
    · rename_i h1
      rw [← sameQ_iff, ← fe_ok]
      split
      · rename_i h2; exact ⟨fun _ => ⟨by omega, h1, h2⟩, fun _ => rfl⟩
      · rename_i h2; exact ⟨fun h => (by cases h), fun h => absurd h.2.2 h2⟩
    · rename_i h1
      rw [← fe_ok]
      exact ⟨fun h => absurd h h1, fun h => h.2.1⟩

/-! ### what is hit -/
def hitB (x : List D) (px py t : Int) : Bool := if cI x 0 = 3 then nearB (cL x 6) px py t else hasB (rQ x 2) px py
/-- what a loop over n - 1, n - 2, .., 0 gathers -/
def downN {α : Type} (f : Nat → List α) (n : Nat) : List α := (List.range n).reverse.flatMap f
theorem down_next {α : Type} {f : Nat → List α} {k : Nat} (acc : List α) : acc ++ downN f (k + 1) = (acc ++ f k) ++ downN f k := by
  simp [downN, List.range_succ]
theorem down_zero {α : Type} {f : Nat → List α} (acc : List α) : acc ++ downN f 0 = acc := by simp [downN]
theorem mem_down {α : Type} {f : Nat → List α} {n : Nat} {a : α} : a ∈ downN f n ↔ ∃ j, j < n ∧ a ∈ f j := by
  simp [downN, List.mem_flatMap]
theorem down_len {α : Type} {f : Nat → List α} {n m : Nat} (hf : ∀ i, (f i).length ≤ m) : (downN f n).length ≤ m * n := by
  have : ∀ l : List Nat, (l.flatMap f).length ≤ m * l.length := by
    intro l
    induction l with
    | nil => simp
    | cons a l ih =>
      have := hf a
      rw [List.flatMap_cons, List.length_append, List.length_cons, Nat.mul_add]
      omega
  simpa [downN] using this (List.range n).reverse
def one1 (p : Nat → Bool) (j : Nat) : List (List D) := if p j = true then [[.i (j : Int)]] else []
theorem one1_len (p : Nat → Bool) (j : Nat) : (one1 p j).length ≤ 1 := by unfold one1; split <;> simp
def hitJ (I : List (List D)) (px py t : Int) (j : Nat) : Bool := hitB (el I j) px py t
def allR (I : List (List D)) (b : Bx) (px py t : Int) : List (List D) := if ((validS I b == 0) && ptB px py && tlB t) = true then downN (one1 (hitJ I px py t)) I.length else []
def atI (I : List (List D)) (b : Bx) (px py t : Int) : Int := if 0 < ((allR I b px py t).length : Int) then cI (el (allR I b px py t) 0) 0 else -1
def inJ (I : List (List D)) (q : Bx) (j : Nat) : Bool := inB (ownQ (el I j)) q
def witR (I : List (List D)) (b q : Bx) : List (List D) := if ((validS I b == 0) && bxQ q) = true then collN (one1 (inJ I q)) I.length 0 else []

theorem sgJ_pos {xs : List (List D)} {px py t : Int} {j : Nat} (h : sgJ xs px py t j = true) : 0 < j := by
  simp only [sgJ, Bool.and_eq_true, decide_eq_true_eq] at h; omega
theorem near_mono {xs : List (List D)} {px py t : Int} (ht : t < 1048576) (h : nearB xs px py t = true) : nearB xs px py (t + 1) = true := by
  unfold nearB at h ⊢
  simp only [Bool.and_eq_true] at h ⊢
  obtain ⟨⟨⟨h1, h2⟩, h3⟩, h4⟩ := h
  have h3' := tlB_iff.1 h3
  refine ⟨⟨⟨h1, h2⟩, tlB_iff.2 (by omega)⟩, ?_⟩
  split at h4
  · rename_i hl; rw [if_pos hl]; exact ner_mono h3'.1 h4
  · rename_i hl
    rw [if_neg hl]
    rw [anyN_iff] at h4 ⊢
    obtain ⟨j, hj, h5⟩ := h4
    refine ⟨j, hj, ?_⟩
    simp only [sgJ, Bool.and_eq_true] at h5 ⊢
    exact ⟨h5.1, seg_mono h3'.1 h5.2⟩
theorem hit_mono {x : List D} {px py t : Int} (ht : t < 1048576) (h : hitB x px py t = true) : hitB x px py (t + 1) = true := by
  unfold hitB at h ⊢
  split at h
  · rename_i hk; rw [if_pos hk]; exact near_mono ht h
  · rename_i hk; rw [if_neg hk]; exact h
theorem all_mono {I : List (List D)} {b : Bx} {px py t : Int} (ht : t < 1048576) {x : List D} (h : x ∈ allR I b px py t) : x ∈ allR I b px py (t + 1) := by
  unfold allR at h ⊢
  split at h
  · rename_i hc
    simp only [Bool.and_eq_true] at hc
    have h3 := tlB_iff.1 hc.2
    rw [if_pos (by simp only [Bool.and_eq_true]; exact ⟨hc.1, tlB_iff.2 (by omega)⟩)]
    rw [mem_down] at h ⊢
    obtain ⟨j, hj, hx⟩ := h
    refine ⟨j, hj, ?_⟩
    unfold one1 at hx ⊢
    split at hx
    · rename_i hp
      rw [if_pos (show hitJ I px py (t + 1) j = true from hit_mono ht hp)]; exact hx
    · cases hx
  · cases h
theorem all_has {I : List (List D)} {b : Bx} {px py t : Int} (ht : t < 1048576) {i : Nat} (hi : i < (allR I b px py t).length) :
    anyN (fun j => cI (el (allR I b px py (t + 1)) j) 0 == cI (el (allR I b px py t) i) 0) (allR I b px py (t + 1)).length = true := by
  have h := all_mono (I := I) (b := b) (px := px) (py := py) ht (getD_mem [] hi)
  obtain ⟨j, hj, e⟩ := List.getElem_of_mem h
  refine anyN_iff.2 ⟨j, hj, ?_⟩
  have e2 : el (allR I b px py (t + 1)) j = (allR I b px py (t + 1))[j] := by simp [el, List.getD, hj]
  rw [e2, e]
  exact beq_self_eq_true _
theorem wit_own {I : List (List D)} {b : Bx} (h : validS I b = 0) : (witR I b b).length = I.length := by
  obtain ⟨_, h2, h3⟩ := validS_iff.1 h
  obtain ⟨k1, _, k3⟩ := foldB_ok h2 _ 0 (false, z4) rfl (Nat.zero_le _) rfl
  have e : (foldB I 0 (false, z4)).2 = b := h3
  rw [e] at k1 k3
  have hin : ∀ j, 0 ≤ j → j < I.length → one1 (inJ I b) j = [[.i (j : Int)]] := fun j _ hj => by
    have hs := k3 j (Nat.zero_le _) hj
    obtain ⟨_, hb⟩ := item_ok (h2 j hj)
    unfold one1
    rw [if_pos]
    unfold inJ inB
    rw [hb, k1]
    obtain ⟨s1, s2, s3, s4⟩ := hs
    simp only [Bool.true_and, Bool.and_eq_true, decide_eq_true_eq]
    exact ⟨⟨⟨s1, s2⟩, s3⟩, s4⟩
  unfold witR
  rw [if_pos (by rw [h, k1]; rfl), coll_congr hin]
  have hl : ∀ l : List Nat, (l.flatMap fun (j : Nat) => [[D.i (j : Int)]]).length = l.length := by
    intro l
    induction l with
    | nil => rfl
    | cons a l ih => rw [List.flatMap_cons, List.length_append, ih]; simp; omega
  simpa [collN] using hl ((List.range I.length).drop 0)
/-- a path is near what is near one of its points -/
theorem near_own {xs : List (List D)} {px py t : Int} {i : Nat} (hp : pathB xs = true) (hq : ptB px py = true) (ht : tlB t = true) (hi : i < xs.length) (h : ner (pX xs i) (pY xs i) px py t = true) : nearB xs px py t = true := by
  obtain ⟨h1, h2, h3, h4⟩ := pathB_iff.1 hp
  unfold nearB
  rw [hp, hq, ht]
  simp only [Bool.true_and]
  split
  · have : i = 0 := by omega
    subst this; exact h
  · rw [anyN_iff]
    by_cases h0 : i = 0
    · subst h0
      refine ⟨1, by omega, ?_⟩
      have := h4 1 (by omega) (by omega)
      simp only [sgJ, Bool.and_eq_true]
      exact ⟨rfl, seg_end this (.inl h)⟩
    · refine ⟨i, hi, ?_⟩
      have := h4 i (by omega) hi
      simp only [sgJ, Bool.and_eq_true, decide_eq_true_eq]
      exact ⟨by omega, seg_end this (.inr h)⟩
/-- as the program looks for it -/
def bsJ (xs : List (List D)) (px py t : Int) (j : Nat) : Bool := decide (0 < (j : Int)) && besB (pX xs (j - 1)) (pY xs (j - 1)) (pX xs j) (pY xs j) px py t
theorem near_code {xs : List (List D)} {px py t : Int} (hp : pathB xs = true) : (ner (pX xs 0) (pY xs 0) px py t || anyN (bsJ xs px py t) xs.length) = (if (xs.length : Int) = 1 then ner (pX xs 0) (pY xs 0) px py t else anyN (sgJ xs px py t) xs.length) := by
  obtain ⟨h1, h2, h3, h4⟩ := pathB_iff.1 hp
  have e : anyN (bsJ xs px py t) xs.length = anyN (sgJ xs px py t) xs.length := anyN_congr fun k hk => by
    unfold bsJ sgJ
    by_cases h0 : 0 < k
    · rw [bes_seg (h4 k h0 hk)]
    · have : k = 0 := by omega
      subst this; rfl
  rw [e]
  split
  · rename_i hl
    have : anyN (sgJ xs px py t) xs.length = false := anyN_false.2 fun j hj => by
      have : j = 0 := by omega
      subst this; rfl
    rw [this, Bool.or_false]
  · rename_i hl
    cases hn : ner (pX xs 0) (pY xs 0) px py t
    · rfl
    · rw [Bool.true_or, eq_comm, anyN_iff]
      refine ⟨1, by omega, ?_⟩
      simp only [sgJ, Bool.and_eq_true]
      exact ⟨rfl, seg_end (h4 1 (by omega) (by omega)) (.inl hn)⟩
theorem ner_dx {x y dx t : Int} (h : -t ≤ dx ∧ dx ≤ t) : ner x y (x + dx) y t = true := by
  unfold ner
  refine decide_eq_true ?_
  unfold sq
  have e : (x - (x + dx)) * (x - (x + dx)) + (y - y) * (y - y) = dx * dx := by grind
  rw [e]
  have h1 : 0 ≤ (t - dx) * (t + dx) := Int.mul_nonneg (by omega) (by omega)
  have e2 : (t - dx) * (t + dx) = t * t - dx * dx := by grind
  omega
end Go.RV
