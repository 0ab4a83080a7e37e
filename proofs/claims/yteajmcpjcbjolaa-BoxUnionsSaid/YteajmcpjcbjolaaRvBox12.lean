/-
  layoutlaw03.BoxUnions over data: each valid box lies in the union.
-/
import Derived.Test.YteajmcpjcbjolaaRvBox11
namespace Go.Proofs.Yteajmcpjcbjolaa.rv
open Go.RV

def le4 (r u : Q) : Prop := u.1 ≤ r.1 ∧ u.2.1 ≤ r.2.1 ∧ r.2.2.1 ≤ u.2.2.1 ∧ r.2.2.2 ≤ u.2.2.2
theorem le4_refl (r : Q) : le4 r r := ⟨Int.le_refl _, Int.le_refl _, Int.le_refl _, Int.le_refl _⟩
theorem le4_trans {r s t : Q} (h : le4 r s) (k : le4 s t) : le4 r t := by
  obtain ⟨h1, h2, h3, h4⟩ := h
  obtain ⟨k1, k2, k3, k4⟩ := k
  exact ⟨Int.le_trans k1 h1, Int.le_trans k2 h2, Int.le_trans h3 k3, Int.le_trans h4 k4⟩
theorem join_le (u r : Q) : le4 u (joinQ u r) ∧ le4 r (joinQ u r) := by
  simp only [le4, joinQ]
  omega
theorem bv_mk {a b c d : Int} (h : (-268435456 ≤ a ∧ a ≤ 268435456 ∧ -268435456 ≤ b ∧ b ≤ 268435456) ∧ (-268435456 ≤ c ∧ c ≤ 268435456 ∧ -268435456 ≤ d ∧ d ≤ 268435456) ∧ a ≤ c ∧ b ≤ d) : bv a b c d = true := by
  simp only [bv, pv, Bool.and_eq_true, decide_eq_true_eq]
  omega
theorem join_v {u r : Q} (hu : vq u = true) (hr : vq r = true) : vq (joinQ u r) = true := by
  obtain ⟨a, b, c, d⟩ := u
  obtain ⟨e, f, g, h⟩ := r
  have h1 := bv_spec hu
  have h2 := bv_spec hr
  refine bv_mk ?_
  show (-268435456 ≤ min a e ∧ min a e ≤ 268435456 ∧ -268435456 ≤ min b f ∧ min b f ≤ 268435456) ∧ (-268435456 ≤ max c g ∧ max c g ≤ 268435456 ∧ -268435456 ≤ max d h ∧ max d h ≤ 268435456) ∧ min a e ≤ max c g ∧ min b f ≤ max d h
  simp only at h1 h2
  omega

theorem fold_le : ∀ (qs : List Q) (u : Q), vq u = true → ∃ u', qs.foldl stepU (some u) = some u' ∧ vq u' = true ∧ le4 u u' ∧ ∀ r ∈ qs, vq r = true → le4 r u'
  | [], u, h => ⟨u, rfl, h, le4_refl u, fun _ hr => by cases hr⟩
  | q :: qs, u, h => by
    cases hq : vq q with
    | false =>
      obtain ⟨u', h1, h2, h3, h4⟩ := fold_le qs u h
      refine ⟨u', by simpa [stepU, hq] using h1, h2, h3, fun r hr hv => ?_⟩
      cases hr with
      | head => rw [hq] at hv; cases hv
      | tail _ hr => exact h4 r hr hv
    | true =>
      obtain ⟨u', h1, h2, h3, h4⟩ := fold_le qs (joinQ u q) (join_v h hq)
      refine ⟨u', by simpa [stepU, hq] using h1, h2, le4_trans (join_le u q).1 h3, fun r hr hv => ?_⟩
      cases hr with
      | head => exact le4_trans (join_le u q).2 h3
      | tail _ hr => exact h4 r hr hv
end Go.Proofs.Yteajmcpjcbjolaa.rv
