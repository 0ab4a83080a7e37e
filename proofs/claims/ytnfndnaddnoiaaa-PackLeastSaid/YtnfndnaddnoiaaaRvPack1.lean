/-
  Packing: what the loops compute, without a program.
-/
import Derived.Test.YtnfndnaddnoiaaaRvBoxT
namespace Go.Proofs.Ytnfndnaddnoiaaa.rv
open Go.RV

def p0 : Pt := (0, 0)
def q0 : Bx := (0, 0, 0, 0)
def badP (p : Pt) : Bool := decide (min p.1 p.2 < 0) || decide (1048576 < max p.1 p.2)
def badAt (l : List Pt) (i : Nat) : Bool := badP (l.getD i p0)
def argBad (w g : Int) : Bool := decide (w < 0) || decide (268435456 < w) || decide (g < 0) || decide (1048576 < g)
def cerr (l : List Pt) (w g : Int) : Int := if anyN (badAt l) l.length = true then 1 else if argBad w g = true then 1 else if 64 < l.length then 2 else 0
theorem badP_iff {p : Pt} : badP p = false ↔ (0 ≤ p.1 ∧ p.1 ≤ 1048576) ∧ 0 ≤ p.2 ∧ p.2 ≤ 1048576 := by
  rw [← Bool.not_eq_true]
  simp only [badP, Bool.or_eq_true, decide_eq_true_eq]; omega
def szOk (l : List Pt) : Prop := ∀ p ∈ l, (0 ≤ p.1 ∧ p.1 ≤ 1048576) ∧ 0 ≤ p.2 ∧ p.2 ≤ 1048576
theorem cerr_ok {l : List Pt} {w g : Int} (h : cerr l w g = 0) : szOk l ∧ (0 ≤ w ∧ w ≤ 268435456) ∧ (0 ≤ g ∧ g ≤ 1048576) ∧ l.length ≤ 64 := by
  unfold cerr at h
  split at h
  · omega
  · rename_i h1
    split at h
    · omega
    · rename_i h2
      split at h
      · omega
      · rename_i h3
        refine ⟨fun p hp => ?_, ?_, ?_, by omega⟩
        · obtain ⟨i, hi, rfl⟩ := List.getElem_of_mem hp
          have := anyN_false.1 (Bool.eq_false_iff.2 h1) i hi
          simp only [badAt, List.getD, List.getElem?_eq_getElem hi, Option.getD_some] at this
          exact badP_iff.1 this
        · simp only [argBad, Bool.or_eq_true, decide_eq_true_eq] at h2; omega
        · simp only [argBad, Bool.or_eq_true, decide_eq_true_eq] at h2; omega

/-- boxes on shelves -/
def shelF (w g : Int) : Bool → Int → Int → Int → List Bx → List Pt → Int × Int × Int × List Bx
  | _, x, y, low, acc, [] => (x, y, low, acc)
  | f, x, y, low, acc, p :: ps => if (!f && decide (w < x + p.1)) = true then
      shelF w g false (p.1 + g) (low + g) (max (low + g) (low + g + p.2)) (acc ++ [(0, low + g, p.1, low + g + p.2)]) ps
    else shelF w g false (x + p.1 + g) y (max low (y + p.2)) (acc ++ [(x, y, x + p.1, y + p.2)]) ps
def shel (w g : Int) (l : List Pt) : List Bx := (shelF w g true 0 0 0 [] l).2.2.2

def ext1 (n : Int) (b : Bx) : Int := max (max n b.2.2.1) b.2.2.2
def ext (l : List Bx) : Int := l.foldl ext1 0

/-- the best of the widths -/
def bestF (sz : List Pt) (g : Int) : List Bx → Int → Nat → List Pt → List Bx × Int
  | best, w, _, [] => (best, w)
  | best, w, i, p :: ps => bestF sz g (if (i == 0) = true ∨ ext (shel (w + (g + p.1)) g sz) < ext best then shel (w + (g + p.1)) g sz else best) (w + (g + p.1)) (i + 1) ps
def best (l : List Pt) (g : Int) : List Bx := (bestF l g [] (-g) 0 l).1

/-- near boxes -/
def nearAt (l : List Bx) (wide : Bx) (i : Nat) : Bool := ovl (l.getD i q0) wide
def nearAny (l : List Bx) (g : Int) (i : Nat) : Bool := anyN (nearAt l (infl (l.getD i q0) g)) i
def disj (l : List Bx) (g : Int) : Bool := !anyN (nearAny l g) l.length

theorem shelF_len (w g : Int) : ∀ (l : List Pt) (f : Bool) (x y low : Int) (acc : List Bx), (shelF w g f x y low acc l).2.2.2.length = acc.length + l.length
  | [], f, x, y, low, acc => by simp [shelF]
  | p :: ps, f, x, y, low, acc => by
    unfold shelF
    split
    · rw [shelF_len w g ps]; simp; omega
    · rw [shelF_len w g ps]; simp; omega
theorem shel_len (w g : Int) (l : List Pt) : (shel w g l).length = l.length := by simp [shel, shelF_len]
end Go.Proofs.Ytnfndnaddnoiaaa.rv
