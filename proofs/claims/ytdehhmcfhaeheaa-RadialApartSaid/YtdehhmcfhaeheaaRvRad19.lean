/-
  Radial drawings: boxes are apart.
-/
import Derived.Test.YtdehhmcfhaeheaaRvRad18
namespace Go.Proofs.Ytdehhmcfhaeheaa.rv
open Go.RV

theorem rnd_near (x : Int) : x - 5000 ≤ 10000 * rnd x ∧ 10000 * rnd x ≤ x + 5000 := by
  unfold rnd; split <;> omega
/-- numbers that are far apart stay so behind the rounding -/
theorem rnd_far {x y s : Int} (h : 10000 * s + 10000 ≤ x - y) : s ≤ rnd x - rnd y := by
  have h1 := rnd_near x
  have h2 := rnd_near y
  omega
/-- the same ring -/
theorem far_same {r k s q c1 c2 s1 s2 : Int} (hr : 0 ≤ r ∧ r ≤ 1048576) (hs : 0 ≤ s) (hk : 3 * s + 512 ≤ 2 * k) (hq : 60 * k ≤ q * r)
    (h : (7000 * q ≤ 60 * (c1 - c2) + 60 ∨ 7000 * q ≤ 60 * (c2 - c1) + 60) ∨ 7000 * q ≤ 60 * (s1 - s2) + 60 ∨ 7000 * q ≤ 60 * (s2 - s1) + 60) :
    (s ≤ rnd (r * c1) - rnd (r * c2) ∨ s ≤ rnd (r * c2) - rnd (r * c1)) ∨ (s ≤ rnd (r * s1) - rnd (r * s2) ∨ s ≤ rnd (r * s2) - rnd (r * s1)) := by
  have key : ∀ a b : Int, 7000 * q ≤ 60 * (a - b) + 60 → 10000 * s + 10000 ≤ r * a - r * b := fun a b h => by
    have h1 := Int.mul_le_mul_of_nonneg_left h hr.1
    have e1 : r * (7000 * q) = 7000 * (q * r) := by rw [Int.mul_comm r, Int.mul_assoc]
    have e2 : r * (60 * (a - b) + 60) = 60 * (r * a - r * b) + 60 * r := by rw [Int.mul_add, ← Int.mul_assoc, Int.mul_comm r 60, Int.mul_assoc, Int.mul_sub]
    rw [e1, e2] at h1
    omega
  rcases h with (h | h) | h | h
  · exact .inl (.inl (rnd_far (key _ _ h)))
  · exact .inl (.inr (rnd_far (key _ _ h)))
  · exact .inr (.inl (rnd_far (key _ _ h)))
  · exact .inr (.inr (rnd_far (key _ _ h)))
theorem prod_le {x T c d : Int} (h1 : -T ≤ x) (h2 : x ≤ T) (hd : 0 ≤ d) (hc : d = c ∨ d = -c) : x * c ≤ T * d := by
  rcases hc with rfl | h
  · exact Int.mul_le_mul_of_nonneg_right h2 hd
  · have e : c = -d := by omega
    subst e
    have := Int.mul_le_mul_of_nonneg_right (by omega : -x ≤ T) hd
    rw [Int.neg_mul] at this
    rw [Int.mul_neg]
    exact this
theorem sq_nonneg (a : Int) : 0 ≤ a * a := by
  rcases Int.le_total 0 a with h | h
  · exact Int.mul_nonneg h h
  · have := Int.mul_nonneg (by omega : 0 ≤ -a) (by omega : 0 ≤ -a)
    rwa [Int.neg_mul_neg] at this
/-- different rings: the first one is the inner one -/
theorem far_rings {r1 r2 k s c1 c2 s1 s2 : Int} (hr : 0 ≤ r1 ∧ r1 ≤ 1048576) (hs : 0 ≤ s) (hk : 3 * s + 512 ≤ 2 * k) (hq : k ≤ r2 - r1)
    (h1 : c1 * c1 + s1 * s1 ≤ 100014143) (h2 : c2 * c2 + s2 * s2 ≤ 100014143 ∧ 99985857 ≤ c2 * c2 + s2 * s2) (h3 : (c2 + s2 ≤ 14143 ∧ c2 - s2 ≤ 14143) ∧ s2 - c2 ≤ 14143 ∧ -c2 - s2 ≤ 14143) :
    (s ≤ rnd (r1 * c1) - rnd (r2 * c2) ∨ s ≤ rnd (r2 * c2) - rnd (r1 * c1)) ∨ (s ≤ rnd (r1 * s1) - rnd (r2 * s2) ∨ s ≤ rnd (r2 * s2) - rnd (r1 * s1)) := by
  by_cases hx : 10000 * s + 10000 ≤ r1 * c1 - r2 * c2
  · exact .inl (.inl (rnd_far hx))
  by_cases hx' : 10000 * s + 10000 ≤ r2 * c2 - r1 * c1
  · exact .inl (.inr (rnd_far hx'))
  by_cases hy : 10000 * s + 10000 ≤ r1 * s1 - r2 * s2
  · exact .inr (.inl (rnd_far hy))
  by_cases hy' : 10000 * s + 10000 ≤ r2 * s2 - r1 * s1
  · exact .inr (.inr (rnd_far hy'))
  exfalso
  have hT : 0 ≤ 10000 * s + 10000 := by omega
  obtain ⟨d, hd, hdc⟩ : ∃ d, 0 ≤ d ∧ (d = c2 ∨ d = -c2) := by
    by_cases h : 0 ≤ c2
    · exact ⟨c2, h, .inl rfl⟩
    · exact ⟨-c2, by omega, .inr rfl⟩
  obtain ⟨e, he, hec⟩ : ∃ e, 0 ≤ e ∧ (e = s2 ∨ e = -s2) := by
    by_cases h : 0 ≤ s2
    · exact ⟨s2, h, .inl rfl⟩
    · exact ⟨-s2, by omega, .inr rfl⟩
  have p1 := prod_le (x := r2 * c2 - r1 * c1) (T := 10000 * s + 10000) (by omega) (by omega) hd hdc
  have p2 := prod_le (x := r2 * s2 - r1 * s1) (T := 10000 * s + 10000) (by omega) (by omega) he hec
  have hde : d + e ≤ 14143 := by omega
  have p3 : (10000 * s + 10000) * (d + e) ≤ (10000 * s + 10000) * 14143 := Int.mul_le_mul_of_nonneg_left hde hT
  rw [Int.mul_add] at p3
  -- the dot product
  have q1 : (r2 * c2 - r1 * c1) * c2 + (r2 * s2 - r1 * s1) * s2 = r2 * (c2 * c2 + s2 * s2) - r1 * (c1 * c2 + s1 * s2) := by
    rw [Int.sub_mul, Int.sub_mul, Int.mul_add, Int.mul_add, Int.mul_assoc, Int.mul_assoc, Int.mul_assoc, Int.mul_assoc]; omega
  have q2 : 2 * (c1 * c2 + s1 * s2) ≤ (c1 * c1 + s1 * s1) + (c2 * c2 + s2 * s2) := by
    have a1 := sq_nonneg (c1 - c2)
    have a2 := sq_nonneg (s1 - s2)
    rw [Int.sub_mul, Int.mul_sub, Int.mul_sub, Int.mul_comm c2 c1] at a1
    rw [Int.sub_mul, Int.mul_sub, Int.mul_sub, Int.mul_comm s2 s1] at a2
    omega
  generalize c1 * c2 + s1 * s2 = G at *
  generalize c2 * c2 + s2 * s2 = H at *
  have q3 : G ≤ H + 14143 := by omega
  have q4 : r1 * G ≤ r1 * (H + 14143) := Int.mul_le_mul_of_nonneg_left q3 hr.1
  rw [Int.mul_add] at q4
  have q5 : k * 99985857 ≤ (r2 - r1) * H := Int.le_trans (Int.mul_le_mul_of_nonneg_left h2.2 (by omega)) (Int.mul_le_mul_of_nonneg_right hq (by omega))
  rw [Int.sub_mul] at q5
  omega
end Go.Proofs.Ytdehhmcfhaeheaa.rv
