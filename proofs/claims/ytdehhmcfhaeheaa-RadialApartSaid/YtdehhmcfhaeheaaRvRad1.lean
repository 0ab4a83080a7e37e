/-
  Radial drawings: leaves, wedges, rings, without a program.
-/
import Derived.Test.YtdehhmcfhaeheaaRvPolar
import Derived.Test.YtdehhmcfhaeheaaRvRows3
namespace Go.Proofs.Ytdehhmcfhaeheaa.rv
open Go.RV

/-! ### sums -/
def sumTo (f : Nat → Int) : Nat → Int
  | 0 => 0
  | n + 1 => sumTo f n + f n
theorem sumTo_congr {f g : Nat → Int} : ∀ {n : Nat}, (∀ i, i < n → f i = g i) → sumTo f n = sumTo g n
  | 0, _ => rfl
  | n + 1, h => by simp only [sumTo, sumTo_congr (n := n) fun i hi => h i (by omega), h n (by omega)]
theorem sumTo_zero {f : Nat → Int} {n : Nat} (h : ∀ i, i < n → f i = 0) : sumTo f n = 0 := by
  rw [sumTo_congr h]
  induction n with
  | zero => rfl
  | succ n ih => simp only [sumTo, ih fun i hi => h i (by omega)]; rfl
theorem sumTo_le {f g : Nat → Int} : ∀ {n : Nat}, (∀ i, i < n → f i ≤ g i) → sumTo f n ≤ sumTo g n
  | 0, _ => Int.le_refl _
  | n + 1, h => by
    have h1 := sumTo_le (n := n) fun i hi => h i (by omega)
    have h2 := h n (by omega)
    simp only [sumTo]; omega
theorem sumTo_nonneg {f : Nat → Int} {n : Nat} (h : ∀ i, i < n → 0 ≤ f i) : 0 ≤ sumTo f n := by
  have := sumTo_le (f := fun _ => 0) (g := f) h
  rw [sumTo_zero (f := fun _ => 0) fun _ _ => rfl] at this
  exact this
theorem sumTo_mono {f : Nat → Int} (h : ∀ i, 0 ≤ f i) {m : Nat} : ∀ {n : Nat}, m ≤ n → sumTo f m ≤ sumTo f n
  | 0, hm => by rw [show m = 0 by omega]; exact Int.le_refl _
  | n + 1, hm => by
    by_cases e : m = n + 1
    · rw [e]; exact Int.le_refl _
    · have h1 := sumTo_mono h (m := m) (n := n) (by omega)
      have h2 := h n
      simp only [sumTo]; omega
theorem sumTo_add {f g : Nat → Int} : ∀ {n : Nat}, sumTo (fun i => f i + g i) n = sumTo f n + sumTo g n
  | 0 => rfl
  | n + 1 => by simp only [sumTo, sumTo_add (n := n)]; omega
theorem sumTo_sub {f g : Nat → Int} : ∀ {n : Nat}, sumTo (fun i => f i - g i) n = sumTo f n - sumTo g n
  | 0 => rfl
  | n + 1 => by simp only [sumTo, sumTo_sub (n := n)]; omega
theorem sumTo_swap {g : Nat → Nat → Int} {n : Nat} : ∀ {m : Nat}, sumTo (fun v => sumTo (fun u => g v u) n) m = sumTo (fun u => sumTo (fun v => g v u) m) n
  | 0 => by
    rw [show (fun u => sumTo (fun v => g v u) 0) = fun _ => 0 from rfl, sumTo_zero fun _ _ => rfl]
    rfl
  | m + 1 => by
    simp only [sumTo]
    rw [sumTo_swap (m := m), ← sumTo_add]
theorem sumTo_one {f : Nat → Int} {j : Nat} : ∀ {n : Nat}, j < n → (∀ i, i < n → i ≠ j → f i = 0) → sumTo f n = f j
  | 0, h, _ => by omega
  | n + 1, h, h0 => by
    simp only [sumTo]
    by_cases e : j = n
    · subst e
      rw [sumTo_zero fun i hi => h0 i (by omega) (by omega)]; omega
    · rw [sumTo_one (n := n) (by omega) fun i hi => h0 i (by omega), h0 n (by omega) (by omega)]; omega
theorem sumTo_ge {f : Nat → Int} (h : ∀ i, 0 ≤ f i) {j n : Nat} (hj : j < n) : f j ≤ sumTo f n := by
  have h1 := sumTo_mono h (m := j + 1) (n := n) (by omega)
  have h2 := sumTo_nonneg (f := f) (n := j) fun i _ => h i
  simp only [sumTo] at h1
  omega

/-! ### forests -/
def par (p : List Int) (v : Nat) : Int := p.getD v (-1)
def badV (p : List Int) (v : Nat) : Bool := decide (par p v < -1) || decide ((v : Int) ≤ par p v)
def okF (p : List Int) : Bool := decide ((p.length : Int) ≤ 64) && !anyN (badV p) p.length
def Forest (p : List Int) : Prop := p.length ≤ 64 ∧ ∀ v, v < p.length → -1 ≤ par p v ∧ par p v < v
theorem okF_iff {p : List Int} : okF p = true ↔ Forest p := by
  simp only [okF, Forest, Bool.and_eq_true, Bool.not_eq_true', decide_eq_true_eq, anyN_false, badV, Bool.or_eq_false_iff, decide_eq_false_iff_not]
  constructor
  · rintro ⟨h1, h2⟩; exact ⟨by omega, fun v hv => by have := h2 v hv; omega⟩
  · rintro ⟨h1, h2⟩; exact ⟨by omega, fun v hv => by have := h2 v hv; omega⟩

/-- what the children of w give -/
def ch (p : List Int) (f : Nat → Int) (w : Int) (u : Nat) : Int := if par p u = w then f u else 0
def lvs (p : List Int) : Nat → Nat → Int
  | 0, _ => 1
  | f + 1, v => max 1 (sumTo (ch p (lvs p f) v) p.length)
def L (p : List Int) (v : Nat) : Int := lvs p p.length v
theorem lvs_eq {p : List Int} (hp : Forest p) : ∀ (f f' v : Nat), v < p.length → p.length ≤ f + v → p.length ≤ f' + v → lvs p f v = lvs p f' v
  | 0, _, v, hv, h, _ => by omega
  | f + 1, 0, v, hv, _, h => by omega
  | f + 1, f' + 1, v, hv, h, h' => by
    simp only [lvs]
    congr 1
    refine sumTo_congr fun u hu => ?_
    unfold ch
    split
    · rename_i e
      have := (hp.2 u hu).2
      exact lvs_eq hp f f' u hu (by omega) (by omega)
    · rfl
/-- the sum of the leaves of the children of w -/
def S (p : List Int) (w : Int) : Int := sumTo (ch p (L p) w) p.length
theorem L_eq {p : List Int} (hp : Forest p) {v : Nat} (hv : v < p.length) : L p v = max 1 (S p v) := by
  have := lvs_eq hp p.length (p.length + 1) v hv (by omega) (by omega)
  unfold L
  rw [this]
  simp only [lvs]
  rfl
theorem lvs_pos (p : List Int) : ∀ f v, 1 ≤ lvs p f v
  | 0, _ => by simp [lvs]
  | f + 1, v => by simp only [lvs]; omega
theorem L_pos (p : List Int) (v : Nat) : 1 ≤ L p v := lvs_pos p _ v
theorem ch_nonneg (p : List Int) (w : Int) (u : Nat) : 0 ≤ ch p (L p) w u := by
  have := L_pos p u
  unfold ch; split <;> omega
theorem S_nonneg (p : List Int) (w : Int) : 0 ≤ S p w := sumTo_nonneg fun u _ => ch_nonneg p w u
theorem S_child {p : List Int} {u : Nat} (hu : u < p.length) : L p u ≤ S p (par p u) := by
  have := sumTo_ge (f := ch p (L p) (par p u)) (ch_nonneg p _) hu
  simp only [ch, if_true] at this
  exact this
theorem L_par {p : List Int} (hp : Forest p) {u : Nat} (hu : u < p.length) (h0 : 0 ≤ par p u) : L p (par p u).toNat = S p (par p u) := by
  have h1 := (hp.2 u hu).2
  rw [L_eq hp (by omega : (par p u).toNat < p.length), show ((par p u).toNat : Int) = par p u by omega]
  have := S_child hu
  have := L_pos p u
  omega
/-- all leaves: at most one for each vertex -/
theorem S_roots {p : List Int} (hp : Forest p) : S p (-1) ≤ p.length := by
  have h1 : sumTo (fun v => L p v - S p v) p.length ≤ sumTo (fun _ => 1) p.length := sumTo_le fun v hv => by
    have h1 := L_eq hp hv
    have h2 := S_nonneg p v
    show L p v - S p v ≤ 1
    omega
  have h2 : ∀ n : Nat, sumTo (fun _ => 1) n = n := fun n => by
    induction n with
    | zero => rfl
    | succ n ih => simp only [sumTo, ih]; omega
  rw [h2, sumTo_sub] at h1
  have h3 : sumTo (fun v => S p (v : Int)) p.length = sumTo (fun u => if par p u = -1 then 0 else L p u) p.length := by
    have e : sumTo (fun v => S p (v : Int)) p.length = sumTo (fun v => sumTo (fun u => ch p (L p) (v : Int) u) p.length) p.length := rfl
    rw [e, sumTo_swap]
    refine sumTo_congr fun u hu => ?_
    have hb := hp.2 u hu
    split
    · rename_i e1
      exact sumTo_zero fun v hv => by unfold ch; rw [if_neg (by omega)]
    · rename_i e1
      rw [sumTo_one (j := (par p u).toNat) (by omega) fun i hi hne => by unfold ch; rw [if_neg (by omega)]]
      unfold ch
      rw [if_pos (by omega)]
  have h4 : S p (-1) + sumTo (fun u => if par p u = -1 then 0 else L p u) p.length = sumTo (L p) p.length := by
    unfold S
    rw [← sumTo_add]
    exact sumTo_congr fun u hu => by unfold ch; split <;> omega
  have h5 : sumTo (fun v => L p v) p.length = sumTo (L p) p.length := rfl
  omega
theorem L_le {p : List Int} (hp : Forest p) : ∀ (m v : Nat), v ≤ m → v < p.length → L p v ≤ p.length := by
  intro m
  induction m with
  | zero =>
    intro v hm hv
    have hb := hp.2 v hv
    have e : par p v = -1 := by omega
    have := S_child hv
    have := S_roots hp
    rw [e] at *
    omega
  | succ m ih =>
    intro v hm hv
    have hb := hp.2 v hv
    have h1 := S_child hv
    by_cases e : par p v = -1
    · have := S_roots hp
      rw [e] at h1
      omega
    · have h2 := L_par hp hv (by omega)
      have h3 := ih (par p v).toNat (by omega) (by omega)
      omega
theorem S_le {p : List Int} (hp : Forest p) {u : Nat} (hu : u < p.length) : S p (par p u) ≤ p.length := by
  by_cases e : par p u = -1
  · rw [e]; exact S_roots hp
  · have hb := hp.2 u hu
    rw [← L_par hp hu (by omega)]
    exact L_le hp _ _ (Nat.le_refl _) (by omega)

/-- leaves of the children of w below i -/
def B (p : List Int) (w : Int) (i : Nat) : Int := sumTo (ch p (L p) w) i
theorem B_le {p : List Int} {u : Nat} (hu : u < p.length) : 0 ≤ B p (par p u) u ∧ B p (par p u) u + L p u ≤ S p (par p u) := by
  refine ⟨sumTo_nonneg fun i _ => ch_nonneg p _ i, ?_⟩
  have h1 := sumTo_mono (ch_nonneg p (par p u)) (m := u + 1) (n := p.length) (by omega)
  have e : sumTo (ch p (L p) (par p u)) (u + 1) = B p (par p u) u + L p u := by simp only [sumTo, B, ch, if_true]
  rw [e] at h1
  exact h1
end Go.Proofs.Ytdehhmcfhaeheaa.rv
