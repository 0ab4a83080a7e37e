/-
  Candidates: what is computed, without a program.
-/
import Derived.Test.YtfmglokfgdjnjaaRvBoxT
import Derived.Test.YtfmglokfgdjnjaaRvRows3
namespace Go.Proofs.Ytfmglokfgdjnjaa.rv
open Go.RV

def badS (n : Int) : Bool := decide (n < 0) || decide (1048576 < n)
def sz3 (w h g : Int) : Bool := decide (0 ≤ w) && decide (w ≤ 1048576) && decide (0 ≤ h) && decide (h ≤ 1048576) && decide (0 ≤ g) && decide (g ≤ 1048576)
theorem sz3_iff {w h g : Int} : sz3 w h g = true ↔ (0 ≤ w ∧ w ≤ 1048576) ∧ (0 ≤ h ∧ h ≤ 1048576) ∧ 0 ≤ g ∧ g ≤ 1048576 := by
  simp only [sz3, Bool.and_eq_true, decide_eq_true_eq]; omega
theorem sz3_bad {w h g : Int} : sz3 w h g = !(badS w || badS h || badS g) := by
  rw [Bool.eq_iff_iff, sz3_iff]
  simp only [badS, Bool.not_eq_true', Bool.or_eq_false_iff, decide_eq_false_iff_not]; omega

/-- the box at the place k -/
def place (b : Bx) (w h g k : Int) : Bx :=
  let x := if 5 ≤ k then b.1 - g - w else if 1 ≤ k ∧ k ≤ 3 then b.2.2.1 + g else (b.1 + b.2.2.1) / 2 - w / 2
  let y := if 3 ≤ k ∧ k ≤ 5 then b.2.2.2 + g else if k = 2 ∨ k = 6 then (b.2.1 + b.2.2.2) / 2 - h / 2 else b.2.1 - g - h
  (x, y, x + w, y + h)
def putf (q : Bx) : List Bx := if vq q = true then [q] else []
theorem putf_len (q : Bx) : (putf q).length ≤ 1 := by unfold putf; split <;> simp
def around (b : Bx) (w h g : Int) : List Bx := if (vq b && sz3 w h g) = true then collN (fun k => putf (place b w h g k)) 8 0 else []

/-- paths -/
def badPt (l : List Pt) (i : Nat) : Bool := !pv (l.getD i p0).1 (l.getD i p0).2
def dup (l : List Pt) (i : Nat) : Bool := decide (0 < i) && ((l.getD i p0).1 == (l.getD (i - 1) p0).1 && (l.getD i p0).2 == (l.getD (i - 1) p0).2)
def ptsOk (l : List Pt) : Bool := (decide (1 ≤ (l.length : Int)) && decide ((l.length : Int) ≤ 512)) && !anyN (badPt l) l.length
def path (l : List Pt) : Bool := !anyN (dup l) l.length && ptsOk l
def grow (b : Bx) (p : Pt) : Bx := (min b.1 p.1, min b.2.1 p.2, max b.2.2.1 p.1, max b.2.2.2 p.2)
def box0 (l : List Pt) : Bx := ((l.getD 0 p0).1, (l.getD 0 p0).2, (l.getD 0 p0).1, (l.getD 0 p0).2)
def growN (l : List Pt) (i : Nat) (b : Bx) : Bx := foldN (fun j b => grow b (l.getD j p0)) l.length i b
def bnd (l : List Pt) : Bx := if path l = true then growN l 0 (box0 l) else q0
theorem bnd1 (l : List Pt) (h : 0 < l.length) : growN l 1 (box0 l) = growN l 0 (box0 l) := by
  have e : grow (box0 l) (l.getD 0 p0) = box0 l := by
    simp only [grow, box0, Prod.mk.injEq]; omega
  unfold growN
  rw [fold_next (i := 0) h, e]
def seg (p q : Pt) : Bx := (min p.1 q.1, min p.2 q.2, max p.1 q.1, max p.2 q.2)
def first (b : Bx) : Int := if b.2.2.1 - b.1 < b.2.2.2 - b.2.1 then 2 else 0
def pair (b : Bx) (w h g : Int) : List Bx := putf (place b w h g (first b)) ++ putf (place b w h g (first b + 4))
def segN (l : List Pt) (i : Nat) : Bx := seg (l.getD (i - 1) p0) (l.getD i p0)
def along (l : List Pt) (w h g : Int) : List Bx := if (path l && sz3 w h g) = true then collN (fun i => pair (segN l i) w h g) l.length 1 else []

theorem path_iff {l : List Pt} : path l = true ↔ (1 ≤ l.length ∧ l.length ≤ 512) ∧ (∀ i, i < l.length → pv (l.getD i p0).1 (l.getD i p0).2 = true) ∧ ∀ i, i < l.length → dup l i = false := by
  simp only [path, ptsOk, Bool.and_eq_true, Bool.not_eq_true', decide_eq_true_eq, anyN_false, badPt, Bool.not_eq_false']
  constructor
  · rintro ⟨h1, ⟨h2, h3⟩, h4⟩; exact ⟨⟨by omega, by omega⟩, h4, h1⟩
  · rintro ⟨⟨h1, h2⟩, h3, h4⟩; exact ⟨h4, ⟨by omega, by omega⟩, h3⟩
theorem dup_false {l : List Pt} {i : Nat} (h : 0 < i) : dup l i = false ↔ ¬ ((l.getD i p0).1 = (l.getD (i - 1) p0).1 ∧ (l.getD i p0).2 = (l.getD (i - 1) p0).2) := by
  rw [← Bool.not_eq_true]
  simp [dup, h]
theorem two {l : List Pt} {i : Nat} (h0 : 0 < i) (h : i < l.length) : (l.take (i + 1)).drop (i - 1) = [l.getD (i - 1) p0, l.getD i p0] := by
  have e : (l.take (i + 1)).drop (i - 1) = (l.drop (i - 1)).take 2 := by
    rw [List.drop_take]
    congr 1; omega
  rw [e, List.drop_eq_getElem_cons (by omega : i - 1 < l.length), List.drop_eq_getElem_cons (by omega : i - 1 + 1 < l.length)]
  simp [List.getD, (by omega : i - 1 < l.length), (by omega : i - 1 + 1 = i), h]
  rw [List.drop_eq_getElem_cons h]; rfl
theorem path_two {l : List Pt} {i : Nat} (hp : path l = true) (h0 : 0 < i) (h : i < l.length) : path [l.getD (i - 1) p0, l.getD i p0] = true := by
  obtain ⟨h1, h2, h3⟩ := path_iff.1 hp
  refine path_iff.2 ⟨⟨by simp, by simp⟩, fun j hj => ?_, fun j hj => ?_⟩
  · match j, hj with
    | 0, _ => exact h2 (i - 1) (by omega)
    | 1, _ => exact h2 i h
  · match j, hj with
    | 0, _ => rfl
    | 1, _ => have := h3 i h; rw [dup_false h0] at this; rw [dup_false (by omega)]; exact this
theorem bnd_two {l : List Pt} {i : Nat} (hp : path l = true) (h0 : 0 < i) (h : i < l.length) : bnd [l.getD (i - 1) p0, l.getD i p0] = segN l i := by
  rw [bnd, if_pos (path_two hp h0 h)]
  generalize hp : l.getD (i - 1) p0 = p
  generalize hq : l.getD i p0 = q
  simp only [segN, hp, hq, growN, foldN, seg, List.length_cons, List.length_nil, box0, grow, List.getD_cons_zero]
  show (min (min p.1 p.1) q.1, min (min p.2 p.2) q.2, max (max p.1 p.1) q.1, max (max p.2 p.2) q.2) = _
  simp only [Prod.mk.injEq]; omega
theorem seg_ok {l : List Pt} {i : Nat} (hp : path l = true) (h0 : 0 < i) (h : i < l.length) : vq (segN l i) = true := by
  obtain ⟨h1, h2, h3⟩ := path_iff.1 hp
  have a := pv_iff.1 (h2 (i - 1) (by omega))
  have b := pv_iff.1 (h2 i h)
  simp only [segN, seg, vq_iff]; omega

/-- free boxes -/
def hitAt (l obs : List Bx) (i k : Nat) : Bool := ovl (l.getD i q0) (obs.getD k q0)
def freeAt (l obs : List Bx) (i : Nat) : Bool := vq (l.getD i q0) && !anyN (hitAt l obs i) obs.length
def free (l obs : List Bx) : List Int := collN (fun i => if freeAt l obs i = true then [(i : Int)] else []) l.length 0
end Go.Proofs.Ytfmglokfgdjnjaa.rv
