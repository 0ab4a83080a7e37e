/-
  RV, part 23: rows that are written place by place.
-/
import Derived.Test.YthnilbkkihmpoaaRvRows3
namespace Go.RV
open Go.RowKit

def rowF {α : Type} (f : Nat → α) (n : Nat) : List α := (List.range n).map f
section
variable {α : Type} {f g : Nat → α} {n i : Nat}
theorem rowF_len : (rowF f n).length = n := by simp [rowF]
theorem rowF_get (d : α) (h : i < n) : (rowF f n).getD i d = f i := by simp [rowF, List.getD, h]
theorem rowF_congr (h : ∀ v, v < n → f v = g v) : rowF f n = rowF g n := by
  refine List.map_congr_left fun v hv => h v (by simpa using hv)
theorem rowF_set (x : α) : (rowF f n).set i x = rowF (fun v => if v = i then x else f v) n := by
  refine List.ext_getElem (by simp [rowF]) fun j h1 h2 => ?_
  simp only [rowF, List.getElem_set, List.getElem_map, List.getElem_range]
  by_cases e : i = j
  · rw [if_pos e, if_pos e.symm]
  · rw [if_neg e, if_neg fun h => e h.symm]
theorem rowF_snoc : rowF f n ++ [f n] = rowF f (n + 1) := by simp [rowF, List.range_succ]
theorem rowF_rep (enc : α → List D) (z : α) : List.replicate n (enc z) = (rowF (fun _ => z) n).map enc := by
  rw [rowF, List.map_map]
  refine List.ext_getElem (by simp) fun j h1 h2 => by simp
end

theorem updI {l : List Int} {i : Nat} {x : Int} (h : i < l.length) : (l.map encI).set i (splice ((l.map encI).getD i []) 0 [.i x]) = (l.set i x).map encI := by
  rw [rowI h, List.map_set]
  rfl
theorem updQ0 {l : List Bx} {i : Nat} {a b c d : Int} (h : i < l.length) : (l.map encQ).set i (splice ((l.map encQ).getD i []) 0 [.i a, .i b, .i c, .i d]) = (l.set i (a, b, c, d)).map encQ := by
  rw [rowQ h, List.map_set]
  rfl
theorem updQ2 {l : List Bx} {i : Nat} {x : Int} (h : i < l.length) : (l.map encQ).set i (splice ((l.map encQ).getD i []) 2 [.i x]) = (l.set i ((l.getD i q0).1, (l.getD i q0).2.1, x, (l.getD i q0).2.2.2)).map encQ := by
  rw [rowQ h, List.map_set]
  rfl
theorem updQ3 {l : List Bx} {i : Nat} {x : Int} (h : i < l.length) : (l.map encQ).set i (splice ((l.map encQ).getD i []) 3 [.i x]) = (l.set i ((l.getD i q0).1, (l.getD i q0).2.1, (l.getD i q0).2.2.1, x)).map encQ := by
  rw [rowQ h, List.map_set]
  rfl
theorem splI (a x : D) : splice [a] 0 [x] = [x] := rfl
theorem splQ0 (a b c d x y z w : D) : splice [a, b, c, d] 0 [x, y, z, w] = [x, y, z, w] := rfl
theorem splQ2 (a b c d x : D) : splice [a, b, c, d] 2 [x] = [a, b, x, d] := rfl
theorem splQ3 (a b c d x : D) : splice [a, b, c, d] 3 [x] = [a, b, c, x] := rfl
theorem setI {l : List Int} {i : Nat} {x : Int} : (l.map encI).set i [.i x] = (l.set i x).map encI := by rw [List.map_set]; rfl
theorem setQ {l : List Bx} {i : Nat} {a b c d : Int} : (l.map encQ).set i [.i a, .i b, .i c, .i d] = (l.set i (a, b, c, d)).map encQ := by rw [List.map_set]; rfl
theorem setP {l : List Pt} {i : Nat} {a b : Int} : (l.map encP).set i [.i a, .i b] = (l.set i (a, b)).map encP := by rw [List.map_set]; rfl
theorem catI {l : List Int} {x : Int} : l.map encI ++ [[D.i x]] = (l ++ [x]).map encI := cat_map encI l x
theorem catP {l : List Pt} {a b : Int} : l.map encP ++ [[D.i a, D.i b]] = (l ++ [(a, b)]).map encP := cat_map encP l (a, b)
theorem catQ {l : List Bx} {a b c d : Int} : l.map encQ ++ [[D.i a, D.i b, D.i c, D.i d]] = (l ++ [(a, b, c, d)]).map encQ := cat_map encQ l (a, b, c, d)
end Go.RV
