/-
  Radial drawings: the points of a drawing are far apart; law 5.
-/
import Derived.Test.YtdehhmcfhaeheaaRvRad19
namespace Go.Proofs.Ytdehhmcfhaeheaa.rv
open Go.RV

theorem pt_eq {p : List Int} {s : Int} (h : goodS p s) {i : Nat} (hi : i < p.length) : pt p s i = (rnd (rg p i * s * co (ang p i)), rnd (rg p i * s * si (ang p i))) := by
  have hg := sgood h hi
  have b1 := rnd_bd ⟨hg.2.1, hg.2.2⟩ (co_bd (ang p i))
  have b2 := rnd_bd ⟨hg.2.1, hg.2.2⟩ (si_bd (ang p i))
  unfold pt pol
  rw [if_pos]
  · simp
  · have e1 : pv 0 0 = true := by decide
    refine ⟨?_, ?_⟩
    · simp only [polOk, e1, Bool.true_and, Bool.and_eq_true, decide_eq_true_eq]
      exact ⟨hg.2.1, hg.2.2⟩
    · simp only [pv, Bool.and_eq_true, decide_eq_true_eq]
      omega
theorem stp_spec {n s : Int} (hn : 1 ≤ n ∧ n ≤ 64) (hs : 0 ≤ s ∧ s ≤ 1048576) :
    (0 ≤ min 60 (360 / n) ∧ min 60 (360 / n) ≤ 60) ∧ n * min 60 (360 / n) ≤ 360 ∧ 0 ≤ stp n s ∧ stp n s ≤ 9223372036854775807 ∧ 60 * ((3 * s + 1) / 2 + 256) ≤ min 60 (360 / n) * stp n s ∧ (3 * s + 1) / 2 + 256 ≤ stp n s := by
  have h1 : 5 ≤ 360 / n := Int.le_ediv_of_mul_le (by omega) (by omega)
  have h2 : n * (360 / n) ≤ 360 := Int.mul_ediv_self_le (by omega)
  have h3 : n * min 60 (360 / n) ≤ n * (360 / n) := Int.mul_le_mul_of_nonneg_left (by omega) (by omega)
  have e : stp n s = (60 * ((3 * s + 1) / 2 + 256) + min 60 (360 / n) - 1) / min 60 (360 / n) := by rw [stp, if_neg (by omega)]
  rw [e]
  have hq : 5 ≤ min 60 (360 / n) ∧ min 60 (360 / n) ≤ 60 := by omega
  generalize min 60 (360 / n) = q at *
  have h4 : 0 ≤ 60 * ((3 * s + 1) / 2 + 256) + q - 1 := by omega
  have h5 := Int.ediv_nonneg (b := q) h4 (by omega)
  have h6 := Int.ediv_le_self q h4
  have h7 := Int.lt_ediv_add_one_mul_self (60 * ((3 * s + 1) / 2 + 256) + q - 1) (b := q) (by omega)
  rw [Int.add_mul, Int.one_mul, Int.mul_comm (_ / q) q] at h7
  refine ⟨⟨by omega, by omega⟩, by omega, h5, by omega, by omega, ?_⟩
  refine Int.le_ediv_of_mul_le (by omega) ?_
  have h8 : ((3 * s + 1) / 2 + 256) * q ≤ ((3 * s + 1) / 2 + 256) * 60 := Int.mul_le_mul_of_nonneg_left hq.2 (by omega)
  omega
/-- different vertices: some ring is not the center -/
theorem ring_same {p : List Int} (hp : Forest p) {u v : Nat} (hu : u < v) (hv : v < p.length) (hr : rg p u = rg p v) : 1 ≤ rg p u := by
  have h1 := rg_bd hp _ u (Nat.le_refl _) (by omega)
  have h2 := rg_bd hp _ v (Nat.le_refl _) hv
  have e1 := rg_eq hp (by omega : u < p.length)
  have e2 := rg_eq hp hv
  have b1 := hp.2 u (by omega)
  have b2 := hp.2 v hv
  by_cases c1 : 0 ≤ par p u
  · rw [if_pos c1] at e1
    have := rg_bd hp _ (par p u).toNat (Nat.le_refl _) (by omega)
    omega
  · by_cases c2 : 0 ≤ par p v
    · rw [if_pos c2] at e2
      have := rg_bd hp _ (par p v).toNat (Nat.le_refl _) (by omega)
      omega
    · have r1 : 2 ≤ roots p := by
        have m1 := sumTo_mono (f := fun v => if par p v < 0 then (1 : Int) else 0) (fun i => by split <;> omega) (m := v + 1) (n := p.length) (by omega)
        have m2 := sumTo_ge (f := fun v => if par p v < 0 then (1 : Int) else 0) (fun i => by split <;> omega) hu
        simp only [sumTo] at m1
        rw [if_pos (by omega)] at m1 m2
        unfold roots
        omega
      have : ring0 p = 1 := by rw [ring0, if_pos (by omega)]
      omega
theorem far_pts {p : List Int} {size : Int} (hp : Forest p) (hs : 0 ≤ size ∧ size ≤ 1048576) (hg : goodS p (stp p.length size)) : Far (rowF (pt p (stp p.length size)) p.length) size := by
  have h64 := hp.1
  refine ⟨fun q hq => ?_, fun v u hu hv0 => ?_⟩
  · obtain ⟨i, hi, rfl⟩ := List.mem_map.1 hq
    have hi : i < p.length := by simpa using hi
    rw [pt_eq hg hi]
    have hgi := sgood hg hi
    have b1 := rnd_bd ⟨hgi.2.1, hgi.2.2⟩ (co_bd (ang p i))
    have b2 := rnd_bd ⟨hgi.2.1, hgi.2.2⟩ (si_bd (ang p i))
    simp only
    omega
  · have hv : v < p.length := by rw [rowF_len] at hv0; exact hv0
    clear hv0
    have hul : u < p.length := by omega
    rw [rowF_get p0 hv, rowF_get p0 hul, pt_eq hg hv, pt_eq hg hul]
    have sp := stp_spec (n := (p.length : Int)) (s := size) (by omega) hs
    have gv := sgood hg hv
    have gu := sgood hg hul
    have av := ang_bd hp hv
    have au := ang_bd hp hul
    have ev : ((ang p v).toNat : Int) = ang p v := by omega
    have eu : ((ang p u).toNat : Int) = ang p u := by omega
    have uv := unit_ok (a := (ang p v).toNat) (by omega)
    have uu := unit_ok (a := (ang p u).toNat) (by omega)
    rw [ev] at uv
    rw [eu] at uu
    simp only
    generalize hS : stp p.length size = S at *
    by_cases hr : rg p u = rg p v
    · have h1 := ring_same hp hu hv hr
      rw [hr] at gu h1 ⊢
      have hap := ang_apart hp sp.1.1 sp.2.1 hul hv (by omega) hr
      have hch := chord_ok (a := (ang p u).toNat) (b := (ang p v).toNat) (by omega) (by omega) sp.1.1 sp.1.2 (by rw [ev, eu]; omega)
      rw [ev, eu] at hch
      refine far_same (k := (3 * size + 1) / 2 + 256) (q := min 60 (360 / (p.length : Int))) gv.2 hs.1 (by omega) ?_ hch
      have h2 : 1 * S ≤ rg p v * S := Int.mul_le_mul_of_nonneg_right h1 (by omega)
      have h3 : min 60 (360 / (p.length : Int)) * S ≤ min 60 (360 / (p.length : Int)) * (rg p v * S) := Int.mul_le_mul_of_nonneg_left (by omega) (by omega)
      omega
    · have dif : ∀ a b : Int, 0 ≤ a → a < b → (3 * size + 1) / 2 + 256 ≤ b * S - a * S := fun a b _ h => by
        rw [← Int.sub_mul]
        have : 1 * S ≤ (b - a) * S := Int.mul_le_mul_of_nonneg_right (by omega) (by omega)
        omega
      rcases Int.lt_or_gt_of_ne hr with h | h
      · exact far_rings gu.2 hs.1 (k := (3 * size + 1) / 2 + 256) (by omega) (dif _ _ gu.1 h) uu.1.1 uv.1 uv.2
      · have := far_rings gv.2 hs.1 (k := (3 * size + 1) / 2 + 256) (by omega) (dif _ _ gv.1 h) uv.1.1 uu.1 uu.2
        omega
end Go.Proofs.Ytdehhmcfhaeheaa.rv
