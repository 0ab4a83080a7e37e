/-
  Radial drawings: wedges and rings, without a program.
-/
import Derived.Test.YtdehhmcfhaeheaaRvRad1
namespace Go.Proofs.Ytdehhmcfhaeheaa.rv
open Go.RV

theorem getD_app_l {α : Type} {l m : List α} {i : Nat} {d : α} (h : i < l.length) : (l ++ m).getD i d = l.getD i d := by
  simp only [List.getD, List.getElem?_append_left h]
theorem getD_app_last {α : Type} {l : List α} {a : α} {i : Nat} {d : α} (h : l.length = i) : (l ++ [a]).getD i d = a := by
  subst h; simp [List.getD]
theorem floor_add {x y A : Int} (hA : 0 < A) : x / A + y / A ≤ (x + y) / A := by
  refine Int.le_ediv_of_mul_le hA ?_
  rw [Int.add_mul]
  have h1 := Int.ediv_mul_le x (b := A) (by omega)
  have h2 := Int.ediv_mul_le y (b := A) (by omega)
  omega
/-- the next part of a wedge -/
def part1 (a : Int × Int) (b s l : Int) : Int × Int := (a.1 + b * a.2 / s, a.1 + (b + l) * a.2 / s - (a.1 + b * a.2 / s))
theorem part1_ok {a : Int × Int} {b s l q : Int} (hb : 0 ≤ b) (hl : 1 ≤ l) (hs : b + l ≤ s) (hq : 0 ≤ q) (ha : s * q ≤ a.2) :
    a.1 ≤ (part1 a b s l).1 ∧ (part1 a b s l).1 + (part1 a b s l).2 ≤ a.1 + a.2 ∧ l * q ≤ (part1 a b s l).2 := by
  have h0 : 0 < s := by omega
  have hsq : 0 ≤ s * q := Int.mul_nonneg (by omega) hq
  have ha0 : 0 ≤ a.2 := by omega
  have h1 : 0 ≤ b * a.2 / s := Int.ediv_nonneg (Int.mul_nonneg hb ha0) (by omega)
  have h2 : (b + l) * a.2 / s ≤ a.2 := by
    have h3 : (b + l) * a.2 ≤ s * a.2 := Int.mul_le_mul_of_nonneg_right hs ha0
    have h4 := Int.ediv_le_ediv (c := s) h0 h3
    rw [Int.mul_ediv_cancel_left _ (by omega)] at h4
    exact h4
  have h3 : l * q ≤ l * a.2 / s := by
    refine Int.le_ediv_of_mul_le h0 ?_
    rw [Int.mul_assoc, Int.mul_comm q s]
    exact Int.mul_le_mul_of_nonneg_left ha (by omega)
  have h4 := floor_add (x := b * a.2) (y := l * a.2) h0
  rw [← Int.add_mul] at h4
  simp only [part1]
  omega

def wdg (p : List Int) : Nat → List (Int × Int)
  | 0 => []
  | v + 1 => wdg p v ++ [part1 (if 0 ≤ par p v then (wdg p v).getD (par p v).toNat (0, 360) else (0, 360)) (B p (par p v) v) (S p (par p v)) (L p v)]
theorem wdg_len (p : List Int) : ∀ k, (wdg p k).length = k
  | 0 => rfl
  | k + 1 => by simp [wdg, wdg_len p k]
def W (p : List Int) (v : Nat) : Int × Int := (wdg p (v + 1)).getD v (0, 360)
theorem wdg_at (p : List Int) {v : Nat} : ∀ {k : Nat}, v < k → (wdg p k).getD v (0, 360) = W p v
  | 0, h => by omega
  | k + 1, h => by
    by_cases e : v = k
    · rw [e]; rfl
    · have hk : v < (wdg p k).length := by rw [wdg_len]; omega
      rw [wdg, getD_app_l hk]
      exact wdg_at p (by omega)
def above (p : List Int) (v : Nat) : Int × Int := if 0 ≤ par p v then W p (par p v).toNat else (0, 360)
theorem W_eq {p : List Int} (hp : Forest p) {v : Nat} (hv : v < p.length) : W p v = part1 (above p v) (B p (par p v) v) (S p (par p v)) (L p v) := by
  have hb := hp.2 v hv
  unfold W
  rw [wdg, getD_app_last (wdg_len p v), above]
  split
  · rw [wdg_at p (by omega)]
  · rfl
/-- where the wedges lie -/
theorem W_ok {p : List Int} (hp : Forest p) {q : Int} (hq : 0 ≤ q) (hq1 : (p.length : Int) * q ≤ 360) : ∀ (m v : Nat), v ≤ m → v < p.length →
    (above p v).1 ≤ (W p v).1 ∧ (W p v).1 + (W p v).2 ≤ (above p v).1 + (above p v).2 ∧ L p v * q ≤ (W p v).2 ∧ 0 ≤ (W p v).1 ∧ (W p v).1 + (W p v).2 ≤ 360 := by
  intro m
  induction m with
  | zero =>
    intro v hm hv
    have hb := hp.2 v hv
    have e : par p v = -1 := by omega
    obtain ⟨b1, b2⟩ := B_le hv
    have hab : above p v = (0, 360) := by rw [above, if_neg (by omega)]
    have hS := S_roots hp
    have hSq : S p (par p v) * q ≤ (above p v).2 := by
      rw [hab, e]
      exact Int.le_trans (Int.mul_le_mul_of_nonneg_right hS hq) hq1
    obtain ⟨h1, h2, h3⟩ := part1_ok (a := above p v) b1 (L_pos p v) b2 hq hSq
    rw [W_eq hp hv]
    rw [hab] at *
    simp only at *
    exact ⟨h1, h2, h3, by omega, by omega⟩
  | succ m ih =>
    intro v hm hv
    have hb := hp.2 v hv
    obtain ⟨b1, b2⟩ := B_le hv
    by_cases e : par p v = -1
    · have hab : above p v = (0, 360) := by rw [above, if_neg (by omega)]
      have hS := S_roots hp
      have hSq : S p (par p v) * q ≤ (above p v).2 := by
        rw [hab, e]
        exact Int.le_trans (Int.mul_le_mul_of_nonneg_right hS hq) hq1
      obtain ⟨h1, h2, h3⟩ := part1_ok (a := above p v) b1 (L_pos p v) b2 hq hSq
      rw [W_eq hp hv]
      rw [hab] at *
      simp only at *
      exact ⟨h1, h2, h3, by omega, by omega⟩
    · have hab : above p v = W p (par p v).toNat := by rw [above, if_pos (by omega)]
      obtain ⟨i1, i2, i3, i4, i5⟩ := ih (par p v).toNat (by omega) (by omega)
      have hSq : S p (par p v) * q ≤ (above p v).2 := by
        rw [hab, ← L_par hp hv (by omega)]
        exact i3
      obtain ⟨h1, h2, h3⟩ := part1_ok (a := above p v) b1 (L_pos p v) b2 hq hSq
      rw [W_eq hp hv]
      rw [hab] at *
      exact ⟨h1, h2, h3, by omega, by omega⟩
def ang (p : List Int) (v : Nat) : Int := (W p v).1 + (W p v).2 / 2

/-! ### rings -/
def roots (p : List Int) : Int := sumTo (fun v => if par p v < 0 then 1 else 0) p.length
def ring0 (p : List Int) : Int := if 1 < roots p then 1 else 0
def rgs (p : List Int) : Nat → List Int
  | 0 => []
  | v + 1 => rgs p v ++ [if 0 ≤ par p v then (rgs p v).getD (par p v).toNat 0 + 1 else ring0 p]
theorem rgs_len (p : List Int) : ∀ k, (rgs p k).length = k
  | 0 => rfl
  | k + 1 => by simp [rgs, rgs_len p k]
def rg (p : List Int) (v : Nat) : Int := (rgs p (v + 1)).getD v 0
theorem rgs_at (p : List Int) {v : Nat} : ∀ {k : Nat}, v < k → (rgs p k).getD v 0 = rg p v
  | 0, h => by omega
  | k + 1, h => by
    by_cases e : v = k
    · rw [e]; rfl
    · have hk : v < (rgs p k).length := by rw [rgs_len]; omega
      rw [rgs, getD_app_l hk]
      exact rgs_at p (by omega)
theorem rg_eq {p : List Int} (hp : Forest p) {v : Nat} (hv : v < p.length) : rg p v = if 0 ≤ par p v then rg p (par p v).toNat + 1 else ring0 p := by
  have hb := hp.2 v hv
  unfold rg
  rw [rgs, getD_app_last (rgs_len p v)]
  split
  · rw [rgs_at p (by omega)]; rfl
  · rfl
theorem rg_bd {p : List Int} (hp : Forest p) : ∀ (m v : Nat), v ≤ m → v < p.length → ring0 p ≤ rg p v ∧ 0 ≤ rg p v ∧ rg p v ≤ v + 1 := by
  have h0 : 0 ≤ ring0 p ∧ ring0 p ≤ 1 := by unfold ring0; split <;> omega
  intro m
  induction m with
  | zero =>
    intro v hm hv
    have hb := hp.2 v hv
    rw [rg_eq hp hv, if_neg (by omega)]
    omega
  | succ m ih =>
    intro v hm hv
    have hb := hp.2 v hv
    rw [rg_eq hp hv]
    split
    · have := ih (par p v).toNat (by omega) (by omega)
      omega
    · omega

/-! ### wedges on the same ring are apart -/
theorem W_apart {p : List Int} (hp : Forest p) {q : Int} (hq : 0 ≤ q) (hq1 : (p.length : Int) * q ≤ 360) : ∀ (m u v : Nat), u < v → v ≤ m → v < p.length → rg p u = rg p v →
    (W p u).1 + (W p u).2 ≤ (W p v).1 ∨ (W p v).1 + (W p v).2 ≤ (W p u).1 := by
  have sib : ∀ u v : Nat, u < v → v < p.length → par p u = par p v → (W p u).1 + (W p u).2 ≤ (W p v).1 := by
    intro u v huv hv e
    have hu : u < p.length := by omega
    obtain ⟨b1, b2⟩ := B_le hv
    obtain ⟨c1, c2⟩ := B_le hu
    have hab : above p u = above p v := by unfold above; rw [e]
    have hsz : 0 ≤ (above p v).2 := by
      by_cases e1 : 0 ≤ par p v
      · have hb := hp.2 v hv
        have := W_ok hp hq hq1 _ (par p v).toNat (Nat.le_refl _) (by omega)
        have h3 := Int.mul_nonneg (a := L p (par p v).toNat) (b := q) (by have := L_pos p (par p v).toNat; omega) hq
        rw [above, if_pos e1]; omega
      · rw [above, if_neg e1]; omega
    have hB : B p (par p v) u + L p u ≤ B p (par p v) v := by
      have h1 := sumTo_mono (ch_nonneg p (par p v)) (m := u + 1) (n := v) (by omega)
      have e2 : sumTo (ch p (L p) (par p v)) (u + 1) = B p (par p v) u + L p u := by simp only [sumTo, B, ch, e, if_true]
      rw [e2] at h1
      exact h1
    rw [W_eq hp hu, W_eq hp hv, hab, e]
    have h0 : 0 < S p (par p v) := by have := L_pos p v; omega
    have h1 := Int.ediv_le_ediv (c := S p (par p v)) h0 (Int.mul_le_mul_of_nonneg_right hB hsz)
    simp only [part1]
    omega
  intro m
  induction m with
  | zero => intro u v h1 h2; omega
  | succ m ih =>
    intro u v huv hvm hv hr
    have hu : u < p.length := by omega
    have bu := hp.2 u hu
    have bv := hp.2 v hv
    have r1 := rg_eq hp hu
    have r2 := rg_eq hp hv
    by_cases e : par p u = par p v
    · exact .inl (sib u v huv hv e)
    · by_cases eu : 0 ≤ par p u
      · by_cases ev : 0 ≤ par p v
        · rw [if_pos eu] at r1
          rw [if_pos ev] at r2
          have ou := W_ok hp hq hq1 _ u (Nat.le_refl _) hu
          have ov := W_ok hp hq hq1 _ v (Nat.le_refl _) hv
          have au : above p u = W p (par p u).toNat := by rw [above, if_pos eu]
          have av : above p v = W p (par p v).toNat := by rw [above, if_pos ev]
          rw [au] at ou
          rw [av] at ov
          rcases Nat.lt_or_gt_of_ne (show (par p u).toNat ≠ (par p v).toNat by omega) with h | h
          · have := ih (par p u).toNat (par p v).toNat h (by omega) (by omega) (by omega)
            omega
          · have := ih (par p v).toNat (par p u).toNat h (by omega) (by omega) (by omega)
            omega
        · rw [if_neg ev] at r2
          rw [if_pos eu] at r1
          have := rg_bd hp _ (par p u).toNat (Nat.le_refl _) (by omega)
          omega
      · by_cases ev : 0 ≤ par p v
        · rw [if_neg eu] at r1
          rw [if_pos ev] at r2
          have := rg_bd hp _ (par p v).toNat (Nat.le_refl _) (by omega)
          omega
        · omega
/-- angles on the same ring -/
theorem ang_apart {p : List Int} (hp : Forest p) {q : Int} (hq : 0 ≤ q) (hq1 : (p.length : Int) * q ≤ 360) {u v : Nat} (hu : u < p.length) (hv : v < p.length) (hne : u ≠ v) (hr : rg p u = rg p v) :
    (q ≤ ang p u - ang p v ∧ ang p u - ang p v ≤ 360 - q) ∨ (q ≤ ang p v - ang p u ∧ ang p v - ang p u ≤ 360 - q) := by
  have ou := W_ok hp hq hq1 _ u (Nat.le_refl _) hu
  have ov := W_ok hp hq hq1 _ v (Nat.le_refl _) hv
  have l1 : q ≤ L p u * q := by
    have := Int.mul_le_mul_of_nonneg_right (L_pos p u) hq
    omega
  have l2 : q ≤ L p v * q := by
    have := Int.mul_le_mul_of_nonneg_right (L_pos p v) hq
    omega
  have h : (W p u).1 + (W p u).2 ≤ (W p v).1 ∨ (W p v).1 + (W p v).2 ≤ (W p u).1 := by
    rcases Nat.lt_or_gt_of_ne hne with h | h
    · exact W_apart hp hq hq1 _ u v h (Nat.le_refl _) hv hr
    · exact (W_apart hp hq hq1 _ v u h (Nat.le_refl _) hu hr.symm).symm
  unfold ang
  omega
theorem ang_bd {p : List Int} (hp : Forest p) {v : Nat} (hv : v < p.length) : 0 ≤ ang p v ∧ ang p v ≤ 359 := by
  have h := W_ok hp (q := 1) (by omega) (by have := hp.1; omega) _ v (Nat.le_refl _) hv
  have := L_pos p v
  unfold ang
  omega
end Go.Proofs.Ytdehhmcfhaeheaa.rv
