/-
  layoutlaw03.BoxUnions over data: unions of lists of boxes.
-/
import Derived.Test.YteajmcpjcbjolaaRvBox6
namespace Go.Proofs.Yteajmcpjcbjolaa.rv
open Go.RV

abbrev Q : Type := Int × Int × Int × Int
def cts4 : List CT := [.int .i64, .int .i64, .int .i64, .int .i64]
def qd : List D → Q
  | [.i a, .i b, .i c, .i d] => (a, b, c, d)
  | _ => (0, 0, 0, 0)
def vq (q : Q) : Bool := bv q.1 q.2.1 q.2.2.1 q.2.2.2
def joinQ (u r : Q) : Q := (min u.1 r.1, min u.2.1 r.2.1, max u.2.2.1 r.2.2.1, max u.2.2.2 r.2.2.2)
def stepU (s : Option Q) (r : Q) : Option Q := if vq r = true then (match s with | none => some r | some u => some (joinQ u r)) else s
def stOf (none? : Bool) (o : Q) : Option Q := if none? = true then none else some o
def outOf (s : Option Q) : Q := s.getD (0, 0, 0, 0)
def unionQ (xs : List (List D)) : Option Q := (xs.map qd).foldl stepU none

theorem row4 {r : List D} (h : FitsF cts4 r) : ∃ a b c d : Int, r = [.i a, .i b, .i c, .i d] := by
  match r, h with
  | [d0, d1, d2, d3], ⟨h0, h1, h2, h3, _⟩ =>
    obtain ⟨a, rfl, _⟩ := wf_i64 h0
    obtain ⟨b, rfl, _⟩ := wf_i64 h1
    obtain ⟨c, rfl, _⟩ := wf_i64 h2
    obtain ⟨d, rfl, _⟩ := wf_i64 h3
    exact ⟨a, b, c, d, rfl⟩

theorem join_comm (x y : Q) : joinQ x y = joinQ y x := by
  obtain ⟨a, b, c, d⟩ := x
  obtain ⟨e, f, g, h⟩ := y
  simp only [joinQ, Prod.mk.injEq]
  omega
theorem join_right (u x y : Q) : joinQ (joinQ u x) y = joinQ (joinQ u y) x := by
  obtain ⟨a, b, c, d⟩ := x
  obtain ⟨e, f, g, h⟩ := y
  obtain ⟨i, j, k, l⟩ := u
  simp only [joinQ, Prod.mk.injEq]
  omega
theorem step_comm (z : Option Q) (x y : Q) : stepU (stepU z x) y = stepU (stepU z y) x := by
  unfold stepU
  cases vq x <;> cases vq y <;> cases z <;> simp [join_comm x y, join_right _ x y]

theorem union_reverse (xs : List (List D)) : unionQ xs.reverse = unionQ xs := by
  unfold unionQ
  rw [List.map_reverse]
  exact List.Perm.foldl_eq' (List.reverse_perm _) (fun x _ y _ z => step_comm z x y) _

end Go.Proofs.Yteajmcpjcbjolaa.rv
