/-
  layoutlaw03.BoxUnions over data: the law itself.
-/
import Derived.Test.YteajmcpjcbjolaaRvBox12
namespace Go.Proofs.Yteajmcpjcbjolaa.rv
open Go.RV

theorem union_inside (xs : List (List D)) : insideAll xs (outOf (unionQ xs)) := by
  have key : ∀ (qs : List Q), (∀ r ∈ qs, vq r = true → ∃ u, qs.foldl stepU none = some u ∧ vq u = true ∧ le4 r u) := by
    intro qs
    induction qs with
    | nil => intro r hr; cases hr
    | cons q qs ih =>
      intro r hr hv
      cases hq : vq q with
      | false =>
        cases hr with
        | head => rw [hq] at hv; cases hv
        | tail _ hr =>
          obtain ⟨u, h1, h2, h3⟩ := ih r hr hv
          exact ⟨u, by simpa [stepU, hq] using h1, h2, h3⟩
      | true =>
        obtain ⟨u, h1, h2, h3, h4⟩ := fold_le qs q hq
        refine ⟨u, by simpa [stepU, hq] using h1, h2, ?_⟩
        cases hr with
        | head => exact h3
        | tail _ hr => exact h4 r hr hv
  intro r hr hv
  obtain ⟨u, h1, h2, h3⟩ := key (xs.map qd) (qd r) (List.mem_map.2 ⟨r, hr, rfl⟩) hv
  have hu : outOf (unionQ xs) = u := by unfold unionQ; rw [h1]; rfl
  rw [hu]
  have hv' : bv (qd r).1 (qd r).2.1 (qd r).2.2.1 (qd r).2.2.2 = true := hv
  have hu' : bv u.1 u.2.1 u.2.2.1 u.2.2.2 = true := h2
  obtain ⟨k1, k2, k3, k4⟩ := h3
  simp only [ins, hv', hu', Bool.and_self, Bool.true_and, Bool.and_eq_true, decide_eq_true_eq]
  exact ⟨⟨⟨k1, k3⟩, k2⟩, k4⟩

def F8 : FuncId → List D → List D := tabOf [(15, fn15), (27, uni), (28, uni), (29, fn29), (30, fn30), (9, fn9), (24, fn24), (10800, loop80), (10801, loop81)]
def preL8 (f : FuncId) (ρ : List D) : Prop := if f = 27 then uniPre ρ else if f = 28 then uniPre ρ else if f = 10800 then pre80 ρ else if f = 10801 then pre81 ρ else True

theorem hM8 : ∀ f S, sgOf sg8 f = some S → Meets Try.prog f S (preL8 f) (F8 f) := sgOf_all (by
  intro e he
  simp only [sg8, List.mem_cons, List.not_mem_nil, or_false] at he
  rcases he with rfl | rfl | rfl | rfl | rfl | rfl | rfl
  · exact m15
  · exact m27'
  · exact m28
  · exact m29
  · exact m30
  · exact m9
  · exact m24)
end Go.Proofs.Yteajmcpjcbjolaa.rv
