/-
  Points, boxes, paths, items and scenes as raw data; how far a point is from a segment.
-/
import Derived.Test.YtpnfcopgmeggoaaRvGr1
namespace Go.RV
open Go.RowKit

/-! ### points and boxes -/
def ptB (x y : Int) : Bool := decide (-268435456 ≤ x) && decide (x ≤ 268435456) && decide (-268435456 ≤ y) && decide (y ≤ 268435456)
def bxB (a b c d : Int) : Bool := ptB a b && ptB c d && decide (a ≤ c) && decide (b ≤ d)
def bxQ (q : Bx) : Bool := bxB q.1 q.2.1 q.2.2.1 q.2.2.2
def tlB (t : Int) : Bool := decide (0 ≤ t) && decide (t ≤ 1048576)
theorem ptB_iff {x y : Int} : ptB x y = true ↔ -268435456 ≤ x ∧ x ≤ 268435456 ∧ -268435456 ≤ y ∧ y ≤ 268435456 := by
  simp only [ptB, Bool.and_eq_true, decide_eq_true_eq]; omega
theorem bxB_iff {a b c d : Int} : bxB a b c d = true ↔ -268435456 ≤ a ∧ c ≤ 268435456 ∧ -268435456 ≤ b ∧ d ≤ 268435456 ∧ a ≤ c ∧ b ≤ d := by
  simp only [bxB, ptB, Bool.and_eq_true, decide_eq_true_eq]; omega
theorem tlB_iff {t : Int} : tlB t = true ↔ 0 ≤ t ∧ t ≤ 1048576 := by
  simp only [tlB, Bool.and_eq_true, decide_eq_true_eq]
/-- cells k, k + 1, .. as a box -/
def rQ (x : List D) (k : Nat) : Bx := (cI x k, cI x (k + 1), cI x (k + 2), cI x (k + 3))
def dQ (q : Bx) : List D := [.i q.1, .i q.2.1, .i q.2.2.1, .i q.2.2.2]
/-- the box a lies in the box b, both valid -/
def inB (a b : Bx) : Bool := bxQ a && bxQ b && decide (b.1 ≤ a.1) && decide (a.2.2.1 ≤ b.2.2.1) && decide (b.2.1 ≤ a.2.1) && decide (a.2.2.2 ≤ b.2.2.2)
/-- a valid box contains a valid point -/
def hasB (b : Bx) (x y : Int) : Bool := bxQ b && ptB x y && decide (b.1 ≤ x) && decide (x ≤ b.2.2.1) && decide (b.2.1 ≤ y) && decide (y ≤ b.2.2.2)
def join (a b : Bx) : Bx := (min a.1 b.1, min a.2.1 b.2.1, max a.2.2.1 b.2.2.1, max a.2.2.2 b.2.2.2)

/-! ### paths -/
abbrev pX (xs : List (List D)) (j : Nat) : Int := cI (el xs j) 0
abbrev pY (xs : List (List D)) (j : Nat) : Int := cI (el xs j) 1
def badP (xs : List (List D)) (j : Nat) : Bool := !ptB (pX xs j) (pY xs j)
def dupP (xs : List (List D)) (j : Nat) : Bool := decide (0 < (j : Int)) && ((pX xs j == pX xs (j - 1)) && (pY xs j == pY xs (j - 1)))
def pathB (xs : List (List D)) : Bool := (decide (1 ≤ (xs.length : Int)) && decide ((xs.length : Int) ≤ 512)) && !anyN (fun j => badP xs j || dupP xs j) xs.length
theorem pathB_iff {xs : List (List D)} : pathB xs = true ↔ 1 ≤ xs.length ∧ xs.length ≤ 512 ∧ (∀ j, j < xs.length → ptB (pX xs j) (pY xs j) = true) ∧ ∀ j, 0 < j → j < xs.length → ¬ (pX xs j = pX xs (j - 1) ∧ pY xs j = pY xs (j - 1)) := by
  have hb : ∀ j, (badP xs j || dupP xs j) = false ↔ ptB (pX xs j) (pY xs j) = true ∧ ¬ (0 < j ∧ pX xs j = pX xs (j - 1) ∧ pY xs j = pY xs (j - 1)) := by
    intro j
    have e : dupP xs j = true ↔ (0 < j ∧ pX xs j = pX xs (j - 1) ∧ pY xs j = pY xs (j - 1)) := by
      simp only [dupP, Bool.and_eq_true, decide_eq_true_eq, beq_iff_eq]
      constructor
      · rintro ⟨h1, h2⟩; exact ⟨by omega, h2⟩
      · rintro ⟨h1, h2⟩; exact ⟨by omega, h2⟩
    rw [Bool.or_eq_false_iff, ← e, Bool.not_eq_true, badP]
    cases ptB (pX xs j) (pY xs j) <;> simp
  have h1 : pathB xs = true ↔ (1 ≤ xs.length ∧ xs.length ≤ 512) ∧ ∀ j, j < xs.length → (badP xs j || dupP xs j) = false := by
    rw [← anyN_false]
    simp only [pathB, Bool.and_eq_true, decide_eq_true_eq, Bool.not_eq_true']
    constructor
    · rintro ⟨⟨h1, h2⟩, h3⟩; exact ⟨⟨by omega, by omega⟩, h3⟩
    · rintro ⟨⟨h1, h2⟩, h3⟩; exact ⟨⟨by omega, by omega⟩, h3⟩
  rw [h1]
  constructor
  · rintro ⟨⟨h1, h2⟩, h3⟩
    exact ⟨h1, h2, fun j hj => ((hb j).1 (h3 j hj)).1, fun j h0 hj h => ((hb j).1 (h3 j hj)).2 ⟨h0, h⟩⟩
  · rintro ⟨h1, h2, h3, h4⟩
    exact ⟨⟨h1, h2⟩, fun j hj => (hb j).2 ⟨h3 j hj, fun h => h4 j h.1 hj h.2⟩⟩
/-- the program's way to see whether a path is valid -/
theorem path_two (xs : List (List D)) : (!anyN (dupP xs) xs.length && ((decide (1 ≤ (xs.length : Int)) && decide ((xs.length : Int) ≤ 512)) && !anyN (badP xs) xs.length)) = pathB xs := by
  have e : anyN (fun j => badP xs j || dupP xs j) xs.length = (anyN (badP xs) xs.length || anyN (dupP xs) xs.length) := by
    rw [Bool.eq_iff_iff, Bool.or_eq_true, anyN_iff, anyN_iff, anyN_iff]
    constructor
    · rintro ⟨j, h1, h2⟩
      rcases Bool.or_eq_true _ _ ▸ h2 with h | h
      · exact .inl ⟨j, h1, h⟩
      · exact .inr ⟨j, h1, h⟩
    · rintro (⟨j, h1, h2⟩ | ⟨j, h1, h2⟩)
      · exact ⟨j, h1, by rw [h2]; rfl⟩
      · exact ⟨j, h1, by rw [h2, Bool.or_true]⟩
  rw [pathB, e]
  cases anyN (badP xs) xs.length <;> cases anyN (dupP xs) xs.length <;> simp
def grow (b : Bx) (x y : Int) : Bx := (min b.1 x, min b.2.1 y, max b.2.2.1 x, max b.2.2.2 y)
def at0 (xs : List (List D)) : Bx := (pX xs 0, pY xs 0, pX xs 0, pY xs 0)
def growN (xs : List (List D)) (i : Nat) (b : Bx) : Bx := foldN (fun j b => grow b (pX xs j) (pY xs j)) xs.length i b
def bndQ (xs : List (List D)) : Bx := if pathB xs = true then growN xs 0 (at0 xs) else (0, 0, 0, 0)
theorem growN_1 {xs : List (List D)} (h : 0 < xs.length) : growN xs 1 (at0 xs) = growN xs 0 (at0 xs) := by
  have e : grow (at0 xs) (pX xs 0) (pY xs 0) = at0 xs := by
    simp only [grow, at0, Prod.mk.injEq]; omega
  unfold growN
  rw [fold_next (i := 0) h, e]
theorem growN_ok {xs : List (List D)} (h : ∀ j, j < xs.length → ptB (pX xs j) (pY xs j) = true) : ∀ (n i : Nat) (b : Bx), xs.length - i = n → i ≤ xs.length → bxQ b = true → bxQ (growN xs i b) = true
  | 0, i, b, hn, hi, hb => by
    have : i = xs.length := by omega
    subst this
    rw [growN, fold_end]; exact hb
  | n + 1, i, b, hn, hi, hb => by
    have hi' : i < xs.length := by omega
    rw [growN, fold_next hi']
    refine growN_ok h n (i + 1) _ (by omega) hi' ?_
    have := ptB_iff.1 (h i hi')
    simp only [bxQ, bxB_iff, grow] at hb ⊢
    omega
theorem bndQ_ok {xs : List (List D)} (h : pathB xs = true) : bxQ (bndQ xs) = true := by
  obtain ⟨h1, _, h3, _⟩ := pathB_iff.1 h
  rw [bndQ, if_pos h]
  refine growN_ok h3 _ 0 _ rfl (by omega) ?_
  have := ptB_iff.1 (h3 0 (by omega))
  simp only [bxQ, bxB_iff, at0]
  omega

/-! ### distances -/
def sq (x y : Int) : Int := x * x + y * y
def ner (ax ay px py t : Int) : Bool := decide (sq (ax - px) (ay - py) ≤ t * t)
def alng (ax ay bx bY px py : Int) : Int := (px - ax) * (bx - ax) + (py - ay) * (bY - ay)
def crs (ax ay bx bY px py : Int) : Int := (px - ax) * (bY - ay) - (py - ay) * (bx - ax)
/-- as the program sees it -/
def besB (ax ay bx bY px py t : Int) : Bool :=
  (ner ax ay px py t || ner bx bY px py t) || (!(decide (alng ax ay bx bY px py < 0) || decide (sq (bx - ax) (bY - ay) < alng ax ay bx bY px py)) && (decide (crs ax ay bx bY px py * crs ax ay bx bY px py ≤ t * t * sq (bx - ax) (bY - ay)) && decide (0 < sq (bx - ax) (bY - ay))))
/-- as the reference says it -/
def segB (ax ay bx bY px py t : Int) : Bool :=
  if alng ax ay bx bY px py ≤ 0 then ner ax ay px py t else if alng bx bY ax ay px py ≤ 0 then ner bx bY px py t else decide (crs ax ay bx bY px py * crs ax ay bx bY px py ≤ t * t * sq (bx - ax) (bY - ay))
theorem lagr (ux uy dx dy : Int) : (ux * dy - uy * dx) * (ux * dy - uy * dx) + (ux * dx + uy * dy) * (ux * dx + uy * dy) = (ux * ux + uy * uy) * (dx * dx + dy * dy) := by grind
theorem seg_core {A W T L C : Int} (hid : C + L * L = A * W) (hW : 0 < W) (_hA : 0 ≤ A) : ((A ≤ T ∨ A - 2 * L + W ≤ T) ∨ ((¬ (L < 0 ∨ W < L)) ∧ (C ≤ T * W ∧ 0 < W))) ↔ (if L ≤ 0 then A ≤ T else if W - L ≤ 0 then A - 2 * L + W ≤ T else C ≤ T * W) := by
  have mono : ∀ {x y : Int}, x ≤ y → x * W ≤ y * W := fun h => Int.mul_le_mul_of_nonneg_right h (by omega)
  have can : ∀ {x y : Int}, x * W ≤ y * W → x ≤ y := fun h => Int.le_of_mul_le_mul_right h hW
  by_cases h1 : L ≤ 0
  · rw [if_pos h1]
    constructor
    · rintro ((h | h) | ⟨h2, h3, _⟩)
      · exact h
      · omega
      · have e : L = 0 := by omega
        subst e
        refine can ?_
        simp only [Int.mul_zero, Int.add_zero] at hid
        omega
    · intro h; exact .inl (.inl h)
  · rw [if_neg h1]
    by_cases h2 : W - L ≤ 0
    · rw [if_pos h2]
      constructor
      · rintro ((h | h) | ⟨h3, h4, _⟩)
        · omega
        · exact h
        · have e : L = W := by omega
          subst e
          have : (A - L) * L ≤ T * L := by rw [Int.sub_mul]; omega
          have := can this
          omega
      · intro h; exact .inl (.inr h)
    · rw [if_neg h2]
      constructor
      · rintro ((h | h) | ⟨_, h4, _⟩)
        · have := mono h
          have : 0 ≤ L * L := Int.mul_nonneg (by omega) (by omega)
          omega
        · have h3 := mono h
          have h4 : 0 ≤ (W - L) * (W - L) := Int.mul_nonneg (by omega) (by omega)
          grind
        · exact h4
      · intro h; exact .inr ⟨by omega, h, hW⟩
theorem bes_seg {ax ay bx bY px py t : Int} (h : ¬ (bx = ax ∧ bY = ay)) : besB ax ay bx bY px py t = segB ax ay bx bY px py t := by
  have hsq : ∀ x : Int, 0 ≤ x * x := fun x => by
    rcases Int.le_total 0 x with h | h
    · exact Int.mul_nonneg h h
    · have := Int.mul_nonneg (a := -x) (b := -x) (by omega) (by omega)
      rw [Int.neg_mul_neg] at this; exact this
  have hpos : ∀ x : Int, x ≠ 0 → 0 < x * x := fun x hx => by
    rcases Int.lt_or_gt_of_ne hx with h | h
    · have := Int.mul_pos (a := -x) (b := -x) (by omega) (by omega)
      rw [Int.neg_mul_neg] at this; exact this
    · exact Int.mul_pos h h
  have hW : 0 < sq (bx - ax) (bY - ay) := by
    have a := hsq (bx - ax); have b := hsq (bY - ay)
    unfold sq
    by_cases e : bx - ax = 0
    · have := hpos (bY - ay) (by omega); omega
    · have := hpos (bx - ax) e; omega
  have hA : 0 ≤ sq (ax - px) (ay - py) := by
    have a := hsq (ax - px); have b := hsq (ay - py)
    unfold sq; omega
  have hid : crs ax ay bx bY px py * crs ax ay bx bY px py + alng ax ay bx bY px py * alng ax ay bx bY px py = sq (ax - px) (ay - py) * sq (bx - ax) (bY - ay) := by
    unfold crs alng sq
    rw [lagr]
    grind
  have hB : sq (bx - px) (bY - py) = sq (ax - px) (ay - py) - 2 * alng ax ay bx bY px py + sq (bx - ax) (bY - ay) := by unfold sq alng; grind
  have hD : alng bx bY ax ay px py = sq (bx - ax) (bY - ay) - alng ax ay bx bY px py := by unfold sq alng; grind
  have key := seg_core (T := t * t) hid hW hA
  rw [Bool.eq_iff_iff]
  unfold besB segB ner
  rw [hB, hD]
  simp only [Bool.or_eq_true, Bool.and_eq_true, decide_eq_true_eq, Bool.not_eq_true', Bool.or_eq_false_iff, decide_eq_false_iff_not]
  rw [show (¬ alng ax ay bx bY px py < 0 ∧ ¬ sq (bx - ax) (bY - ay) < alng ax ay bx bY px py) ↔ ¬ (alng ax ay bx bY px py < 0 ∨ sq (bx - ax) (bY - ay) < alng ax ay bx bY px py) by omega, key]
  by_cases h1 : alng ax ay bx bY px py ≤ 0
  · rw [if_pos h1, if_pos h1, decide_eq_true_eq]
  · rw [if_neg h1, if_neg h1]
    by_cases h2 : sq (bx - ax) (bY - ay) - alng ax ay bx bY px py ≤ 0
    · rw [if_pos h2, if_pos h2, decide_eq_true_eq]
    · rw [if_neg h2, if_neg h2, decide_eq_true_eq]
theorem seg_same {ax ay px py t : Int} : segB ax ay ax ay px py t = ner ax ay px py t := by
  unfold segB
  rw [if_pos]
  unfold alng; simp
/-- a tolerance more -/
theorem ner_mono {ax ay px py t : Int} (ht : 0 ≤ t) (h : ner ax ay px py t = true) : ner ax ay px py (t + 1) = true := by
  simp only [ner, decide_eq_true_eq] at h ⊢
  have : (t + 1) * (t + 1) = t * t + 2 * t + 1 := by grind
  omega
theorem seg_mono {ax ay bx bY px py t : Int} (ht : 0 ≤ t) (h : segB ax ay bx bY px py t = true) : segB ax ay bx bY px py (t + 1) = true := by
  unfold segB at h ⊢
  by_cases h1 : alng ax ay bx bY px py ≤ 0
  · rw [if_pos h1] at h ⊢; exact ner_mono ht h
  · rw [if_neg h1] at h ⊢
    by_cases h2 : alng bx bY ax ay px py ≤ 0
    · rw [if_pos h2] at h ⊢; exact ner_mono ht h
    · rw [if_neg h2] at h ⊢
      simp only [decide_eq_true_eq] at h ⊢
      refine Int.le_trans h (Int.mul_le_mul_of_nonneg_right ?_ ?_)
      · have : (t + 1) * (t + 1) = t * t + 2 * t + 1 := by grind
        omega
      · have hsq : ∀ x : Int, 0 ≤ x * x := fun x => by
          rcases Int.le_total 0 x with h | h
          · exact Int.mul_nonneg h h
          · have := Int.mul_nonneg (a := -x) (b := -x) (by omega) (by omega)
            rw [Int.neg_mul_neg] at this; exact this
        have a := hsq (bx - ax); have b := hsq (bY - ay)
        unfold sq; omega
/-- a point near an end of a segment is near the segment -/
theorem seg_end {ax ay bx bY px py t : Int} (h : ¬ (bx = ax ∧ bY = ay)) (hn : ner ax ay px py t = true ∨ ner bx bY px py t = true) : segB ax ay bx bY px py t = true := by
  rw [← bes_seg h]
  unfold besB
  rcases hn with h | h <;> rw [h] <;> simp

/-! ### near a path -/
def sgJ (xs : List (List D)) (px py t : Int) (j : Nat) : Bool := decide (0 < (j : Int)) && segB (pX xs (j - 1)) (pY xs (j - 1)) (pX xs j) (pY xs j) px py t
def nearB (xs : List (List D)) (px py t : Int) : Bool := ((pathB xs && ptB px py) && tlB t) && (if (xs.length : Int) = 1 then ner (pX xs 0) (pY xs 0) px py t else anyN (sgJ xs px py t) xs.length)
end Go.RV
