/-
  RV, part 9b: results that the caller may go on writing.
-/
import Derived.Test.YthnilbkkihmpoaaRvOps5
namespace Go.RV
open Go.RowKit

section
variable {P : Program} {K : Ctx} {σ : St} {gh : Gh} {a : Act} {w : World} {o : Oper}

theorem RepLO.app {F : Nat → Prop} : ∀ {c1 c2 : List CT} {v1 v2 : List Value} {d1 d2 : List D} {u1 u2 : List Value}, RepLO w F c1 v1 d1 u1 → RepLO w F c2 v2 d2 u2 → RepLO w F (c1 ++ c2) (v1 ++ v2) (d1 ++ d2) (u1 ++ u2)
  | [], _, [], _, [], _, [], _, _, h2 => h2
  | .osl e cts :: cs, _, v :: vs, _, d :: ds, _, u :: us, _, h1, h2 => ⟨h1.1, h1.2.1, RepLO.app h1.2.2 h2⟩
  | .osl e cts :: cs, _, v :: vs, _, d :: ds, _, [], _, h1, h2 => by cases h1.1
  | .int _ :: cs, _, v :: vs, _, d :: ds, _, us, _, h1, h2 => ⟨h1.1, RepLO.app h1.2 h2⟩
  | .bool :: cs, _, v :: vs, _, d :: ds, _, us, _, h1, h2 => ⟨h1.1, RepLO.app h1.2 h2⟩
  | .str :: cs, _, v :: vs, _, d :: ds, _, us, _, h1, h2 => ⟨h1.1, RepLO.app h1.2 h2⟩
  | .sl _ _ :: cs, _, v :: vs, _, d :: ds, _, us, _, h1, h2 => ⟨h1.1, RepLO.app h1.2 h2⟩
  | .pt _ :: cs, _, v :: vs, _, d :: ds, _, us, _, h1, h2 => ⟨h1.1, RepLO.app h1.2 h2⟩
  | .clo :: cs, _, v :: vs, _, d :: ds, _, us, _, h1, h2 => ⟨h1.1, RepLO.app h1.2 h2⟩
  | .ifc :: cs, _, v :: vs, _, d :: ds, _, us, _, h1, h2 => ⟨h1.1, RepLO.app h1.2 h2⟩

theorem RepLO.len {F : Nat → Prop} : ∀ {cts : List CT} {vs : List Value} {ds : List D} {us : List Value}, RepLO w F cts vs ds us → ds.length = cts.length ∧ vs.length = cts.length ∧ us.length = oN cts
  | [], [], [], [], _ => ⟨rfl, rfl, rfl⟩
  | .osl e cts :: cs, v :: vs, d :: ds, u :: us, h => by have := RepLO.len h.2.2; simp [this.1, this.2.1, this.2.2, oN]
  | .osl e cts :: cs, v :: vs, d :: ds, [], h => by cases h.1
  | .int _ :: cs, v :: vs, d :: ds, us, h => by have := RepLO.len h.2; simp [this.1, this.2.1, this.2.2, oN]
  | .bool :: cs, v :: vs, d :: ds, us, h => by have := RepLO.len h.2; simp [this.1, this.2.1, this.2.2, oN]
  | .str :: cs, v :: vs, d :: ds, us, h => by have := RepLO.len h.2; simp [this.1, this.2.1, this.2.2, oN]
  | .sl _ _ :: cs, v :: vs, d :: ds, us, h => by have := RepLO.len h.2; simp [this.1, this.2.1, this.2.2, oN]
  | .pt _ :: cs, v :: vs, d :: ds, us, h => by have := RepLO.len h.2; simp [this.1, this.2.1, this.2.2, oN]
  | .clo :: cs, v :: vs, d :: ds, us, h => by have := RepLO.len h.2; simp [this.1, this.2.1, this.2.2, oN]
  | .ifc :: cs, v :: vs, d :: ds, us, h => by have := RepLO.len h.2; simp [this.1, this.2.1, this.2.2, oN]

/-- a row that is there, and met by nothing else, becomes a resource -/
theorem row_add (h : Inv K σ gh a w) {r : Nat} (hid : σ.res[r]? = some none) {g : X} (hg : (g.d K.Φ K.ρ).bool = true) {e : TypeId} {cts : List CT} {content : X} {v : Value} (hown : OwnD w gh.F e cts v (content.d K.Φ K.ρ))
    (hb : ∀ b, ownB v = some b → ¬ K.Pr b ∧ ¬ gh.F b ∧ b < w.heap.size ∧ ∀ q x, σ.has q x → x.on K → x.k.live gh q ≠ some b) :
    ∃ gh', Inv K ⟨σ.slots, σ.res.set r (some ⟨g, .row e cts content 1 false⟩)⟩ gh' a w ∧ gh.le gh' ∧ gh'.rv r = v ∧ gh'.vr r = 1 ∧ gh'.F = gh.F ∧ gh'.β = gh.β ∧ ∀ q, q ≠ r → gh'.rv q = gh.rv q ∧ gh'.vr q = gh.vr q := by
  have hlt : r < σ.res.length := (List.getElem?_eq_some_iff.1 hid).1
  have hv0 : gh.vr r = 0 := by
    cases hv : gh.vr r with
    | zero => rfl
    | succ n =>
      obtain ⟨x, hx, _⟩ := h.vr0 r (by omega)
      unfold St.has at hx
      rw [hid] at hx
      cases hx
  let gh' : Gh := { gh with rv := fun q => if q = r then v else gh.rv q, vr := fun q => if q = r then 1 else gh.vr q }
  have hle : gh.le gh' := ⟨fun _ _ h => h, fun q => by show gh.vr q ≤ if q = r then 1 else gh.vr q; split <;> (try subst_vars) <;> omega,
    fun q h1 h2 => by
      show (if q = r then v else gh.rv q) = gh.rv q
      by_cases e : q = r
      · subst e; omega
      · rw [if_neg e], fun _ h => h⟩
  have hrr : gh'.rv r = v := by simp [gh']
  have hvr : gh'.vr r = 1 := by simp [gh']
  refine ⟨gh', ?_, hle, hrr, hvr, rfl, rfl, fun q hq => ⟨by simp [gh', hq], by simp [gh', hq]⟩⟩
  refine h.step (T := fun q => q = r) ⟨hle, rfl, rfl, rfl, Nat.le_refl _, fun q hq => ⟨by simp [Ne.symm hq], rfl, by simp [gh', hq], by simp [gh', hq]⟩, fun _ _ _ => rfl, fun b hb => h.Flt b hb, fun b hb => .inl hb,
    fun q y hT hy hony => ?_, fun q y b hT hy hony hl => ?_, fun q y q' y' c hT hT' _ _ _ _ _ _ => hT.trans hT'.symm, fun q c hT hb => ?_, fun q hT hr => ?_⟩
  · subst hT
    rw [getElem?_set_has hlt] at hy
    simp only [Option.some.injEq] at hy
    subst hy
    obtain ⟨xs, vals, hd, ho, hrep⟩ := hown
    refine ⟨hvr, Nat.le_refl _, fun q' n c hq hc0 => ?_, xs, vals, hd, by rw [hrr]; exact ho, hrep⟩
    rw [hrr] at hq
    rcases ho with ⟨_, _, _, h1⟩ | ⟨g', cap, cur, h1, _⟩
    · rw [h1] at hq
      simp only [Value.slice.injEq] at hq
      omega
    · rw [h1] at hq
      simp only [Value.slice.injEq, Option.some.injEq] at hq
      exact ⟨g', hq.1.symm⟩
  · subst hT
    rw [getElem?_set_has hlt] at hy
    simp only [Option.some.injEq] at hy
    subst hy
    simp only [RK.live, hrr] at hl
    obtain ⟨o1, o2, o3, o4⟩ := hb b hl
    exact ⟨o1, o2, o3, fun r2 x2 _ hx2 hon2 => o4 r2 x2 hx2 hon2⟩
  · subst hT
    exact ⟨_, getElem?_set_has hlt, hg⟩
  · subst hT
    exact ⟨_, getElem?_set_has hlt, hg⟩

theorem live_other {k : RK} {q : Nat} {gh gh' : Gh} (hβ : gh'.β = gh.β) (hrv : gh'.rv q = gh.rv q) : k.live gh' q = k.live gh q := by
  cases k with
  | box _ _ z => cases z <;> simp [RK.live, hβ]
  | row _ _ _ _ z => cases z <;> simp [RK.live, hrv]

theorem add_rows {mk : Nat → X} {G : X} (hG : (G.d K.Φ K.ρ).bool = true) : ∀ {cts : List CT} {j r : Nat} {vs : List Value} {ds : List D} {us : List Value} {σ : St} {gh : Gh}, Inv K σ gh a w → RepLO w gh.F cts vs ds us →
    (∀ i, i < ds.length → (mk (j + i)).d K.Φ K.ρ = ds.getD i default) → (∀ i, i < us.length → σ.res[r + i]? = some none) →
    (∀ u ∈ us, ∀ b, ownB u = some b → ¬ K.Pr b ∧ ¬ gh.F b ∧ b < w.heap.size ∧ ∀ q x, σ.has q x → x.on K → x.k.live gh q ≠ some b) → us.Pairwise (fun u u' => ∀ b, ownB u = some b → ownB u' ≠ some b) →
    ∃ gh', Inv K ⟨σ.slots, setAll σ.res (ownWr mk G j r cts)⟩ gh' a w ∧ gh.le gh' ∧ gh'.F = gh.F ∧ (∀ i u, us[i]? = some u → gh'.rv (r + i) = u ∧ gh'.vr (r + i) = 1) ∧ ∀ q, q < r → gh'.rv q = gh.rv q ∧ gh'.vr q = gh.vr q
  | [], j, r, vs, ds, us, σ, gh, hI, h, hm, hid, hb, hp => by
    match vs, ds, us, h with
    | [], [], [], _ => exact ⟨gh, hI, Gh.le.refl gh, rfl, by simp, fun _ _ => ⟨rfl, rfl⟩⟩
  | .osl e cts :: cs, j, r, vs, ds, us, σ, gh, hI, h, hm, hid, hb, hp => by
    match vs, ds, us, h with
    | v :: vs, d :: ds, u :: us, h9 =>
      obtain ⟨hvu, ho, h3⟩ := h9
      subst hvu
      have hm0 := hm 0 (by simp)
      simp only [Nat.add_zero, List.getD_cons_zero] at hm0
      obtain ⟨gh1, hI1, hle1, hrv1, hvr1, hF1, hβ1, hot1⟩ := row_add hI (r := r) (by simpa using hid 0 (by simp)) hG (e := e) (cts := cts) (content := mk j) (v := v) (by rw [hm0]; exact ho) (hb v (by simp))
      have hp' := List.pairwise_cons.1 hp
      obtain ⟨gh', hI', hle', hF', hus, hlow⟩ := add_rows hG (j := j + 1) (r := r + 1) (us := us) (σ := ⟨σ.slots, σ.res.set r (some ⟨G, .row e cts (mk j) 1 false⟩)⟩) hI1 (by rw [hF1]; exact h3)
        (fun i hi => by have := hm (i + 1) (by simp; omega); rw [show j + 1 + i = j + (i + 1) by omega]; simpa using this)
        (fun i hi => by
          have := hid (i + 1) (by simp; omega)
          show (σ.res.set r _)[r + 1 + i]? = some none
          rw [List.getElem?_set, if_neg (by omega), show r + 1 + i = r + (i + 1) by omega]; exact this)
        (fun u' hu' b hbu => by
          obtain ⟨o1, o2, o3, o4⟩ := hb u' (by simp [hu']) b hbu
          refine ⟨o1, by rw [hF1]; exact o2, o3, fun q x hx hon hl => ?_⟩
          by_cases hq : q = r
          · subst hq
            have hlt : q < σ.res.length := (List.getElem?_eq_some_iff.1 (by simpa using hid 0 (by simp))).1
            unfold St.has at hx
            rw [getElem?_set_has hlt] at hx
            simp only [Option.some.injEq] at hx
            subst hx
            simp only [RK.live, hrv1] at hl
            exact hp'.1 u' hu' b hl hbu
          · have hx' : σ.has q x := by
              unfold St.has at hx ⊢
              rw [List.getElem?_set, if_neg (Ne.symm hq)] at hx
              exact hx
            rw [live_other hβ1 (hot1 q hq).1] at hl
            exact o4 q x hx' hon hl) hp'.2
      refine ⟨gh', hI', hle1.trans hle', hF'.trans hF1, fun i u' hi => ?_, fun q hq => ?_⟩
      · cases i with
        | zero =>
          simp only [List.getElem?_cons_zero, Option.some.injEq] at hi
          subst hi
          obtain ⟨k1, k2⟩ := hlow r (by omega)
          exact ⟨k1.trans hrv1, k2.trans hvr1⟩
        | succ i =>
          have := hus i u' (by simpa using hi)
          rw [show r + (i + 1) = r + 1 + i by omega]; exact this
      · obtain ⟨k1, k2⟩ := hlow q (by omega)
        obtain ⟨k3, k4⟩ := hot1 q (by omega)
        exact ⟨k1.trans k3, k2.trans k4⟩
    | v :: vs, d :: ds, [], h9 => cases h9.1
  | .int _ :: cs, j, r, vs, ds, us, σ, gh, hI, h, hm, hid, hb, hp => by
    match vs, ds, h with
    | v :: vs, d :: ds, h => exact add_rows hG (j := j + 1) hI h.2 (fun i hi => by have := hm (i + 1) (by simp; omega); rw [show j + 1 + i = j + (i + 1) by omega]; simpa using this) hid hb hp
  | .bool :: cs, j, r, vs, ds, us, σ, gh, hI, h, hm, hid, hb, hp => by
    match vs, ds, h with
    | v :: vs, d :: ds, h => exact add_rows hG (j := j + 1) hI h.2 (fun i hi => by have := hm (i + 1) (by simp; omega); rw [show j + 1 + i = j + (i + 1) by omega]; simpa using this) hid hb hp
  | .str :: cs, j, r, vs, ds, us, σ, gh, hI, h, hm, hid, hb, hp => by
    match vs, ds, h with
    | v :: vs, d :: ds, h => exact add_rows hG (j := j + 1) hI h.2 (fun i hi => by have := hm (i + 1) (by simp; omega); rw [show j + 1 + i = j + (i + 1) by omega]; simpa using this) hid hb hp
  | .sl _ _ :: cs, j, r, vs, ds, us, σ, gh, hI, h, hm, hid, hb, hp => by
    match vs, ds, h with
    | v :: vs, d :: ds, h => exact add_rows hG (j := j + 1) hI h.2 (fun i hi => by have := hm (i + 1) (by simp; omega); rw [show j + 1 + i = j + (i + 1) by omega]; simpa using this) hid hb hp
  | .pt _ :: cs, j, r, vs, ds, us, σ, gh, hI, h, hm, hid, hb, hp => by
    match vs, ds, h with
    | v :: vs, d :: ds, h => exact add_rows hG (j := j + 1) hI h.2 (fun i hi => by have := hm (i + 1) (by simp; omega); rw [show j + 1 + i = j + (i + 1) by omega]; simpa using this) hid hb hp
  | .clo :: cs, j, r, vs, ds, us, σ, gh, hI, h, hm, hid, hb, hp => by
    match vs, ds, h with
    | v :: vs, d :: ds, h => exact add_rows hG (j := j + 1) hI h.2 (fun i hi => by have := hm (i + 1) (by simp; omega); rw [show j + 1 + i = j + (i + 1) by omega]; simpa using this) hid hb hp
  | .ifc :: cs, j, r, vs, ds, us, σ, gh, hI, h, hm, hid, hb, hp => by
    match vs, ds, h with
    | v :: vs, d :: ds, h => exact add_rows hG (j := j + 1) hI h.2 (fun i hi => by have := hm (i + 1) (by simp; omega); rw [show j + 1 + i = j + (i + 1) by omega]; simpa using this) hid hb hp

theorem resCellsO_rel {mk : Nat → X} : ∀ {cts : List CT} {j r : Nat} {vs : List Value} {ds : List D} {us : List Value}, RepLO w gh.F cts vs ds us → (∀ i, i < ds.length → (mk (j + i)).d K.Φ K.ρ = ds.getD i default) →
    (∀ i u, us[i]? = some u → gh.rv (r + i) = u ∧ gh.vr (r + i) = 1) → relS K.Φ K.ρ w gh (resCellsO mk j r cts) vs
  | [], j, r, vs, ds, us, h, hm, hu => by
    match vs, ds, us, h with
    | [], [], [], _ => trivial
  | .osl e cts :: cs, j, r, vs, ds, us, h, hm, hu => by
    match vs, ds, us, h with
    | v :: vs, d :: ds, u :: us, h9 =>
      obtain ⟨hvu, ⟨xs, vals, _, ho, _⟩, h3⟩ := h9
      subst hvu
      obtain ⟨k1, k2⟩ := hu 0 v rfl
      rw [Nat.add_zero] at k1 k2
      refine ⟨⟨ho.slice, Nat.le_refl _, by rw [k2]; exact Nat.le_refl _, fun _ => k1.symm⟩, resCellsO_rel h3 (fun i hi => ?_) fun i u hi => ?_⟩
      · have := hm (i + 1) (by simp; omega)
        rw [show j + 1 + i = j + (i + 1) by omega]; simpa using this
      · have := hu (i + 1) u (by simpa using hi)
        rw [show r + 1 + i = r + (i + 1) by omega]; exact this
    | v :: vs, d :: ds, [], h9 => cases h9.1
  | .int _ :: cs, j, r, vs, ds, us, h, hm, hu => by
    match vs, ds, h with
    | v :: vs, d :: ds, h =>
      have hm0 := hm 0 (by simp)
      simp only [Nat.add_zero, List.getD_cons_zero] at hm0
      refine ⟨?_, resCellsO_rel h.2 (fun i hi => by have := hm (i + 1) (by simp; omega); rw [show j + 1 + i = j + (i + 1) by omega]; simpa using this) hu⟩
      show Rep w gh.F _ v ((mk j).d K.Φ K.ρ)
      rw [hm0]; exact h.1
  | .bool :: cs, j, r, vs, ds, us, h, hm, hu => by
    match vs, ds, h with
    | v :: vs, d :: ds, h =>
      have hm0 := hm 0 (by simp)
      simp only [Nat.add_zero, List.getD_cons_zero] at hm0
      refine ⟨?_, resCellsO_rel h.2 (fun i hi => by have := hm (i + 1) (by simp; omega); rw [show j + 1 + i = j + (i + 1) by omega]; simpa using this) hu⟩
      show Rep w gh.F _ v ((mk j).d K.Φ K.ρ)
      rw [hm0]; exact h.1
  | .str :: cs, j, r, vs, ds, us, h, hm, hu => by
    match vs, ds, h with
    | v :: vs, d :: ds, h =>
      have hm0 := hm 0 (by simp)
      simp only [Nat.add_zero, List.getD_cons_zero] at hm0
      refine ⟨?_, resCellsO_rel h.2 (fun i hi => by have := hm (i + 1) (by simp; omega); rw [show j + 1 + i = j + (i + 1) by omega]; simpa using this) hu⟩
      show Rep w gh.F _ v ((mk j).d K.Φ K.ρ)
      rw [hm0]; exact h.1
  | .sl _ _ :: cs, j, r, vs, ds, us, h, hm, hu => by
    match vs, ds, h with
    | v :: vs, d :: ds, h =>
      have hm0 := hm 0 (by simp)
      simp only [Nat.add_zero, List.getD_cons_zero] at hm0
      refine ⟨?_, resCellsO_rel h.2 (fun i hi => by have := hm (i + 1) (by simp; omega); rw [show j + 1 + i = j + (i + 1) by omega]; simpa using this) hu⟩
      show Rep w gh.F _ v ((mk j).d K.Φ K.ρ)
      rw [hm0]; exact h.1
  | .pt _ :: cs, j, r, vs, ds, us, h, hm, hu => by
    match vs, ds, h with
    | v :: vs, d :: ds, h =>
      have hm0 := hm 0 (by simp)
      simp only [Nat.add_zero, List.getD_cons_zero] at hm0
      refine ⟨?_, resCellsO_rel h.2 (fun i hi => by have := hm (i + 1) (by simp; omega); rw [show j + 1 + i = j + (i + 1) by omega]; simpa using this) hu⟩
      show Rep w gh.F _ v ((mk j).d K.Φ K.ρ)
      rw [hm0]; exact h.1
  | .clo :: cs, j, r, vs, ds, us, h, hm, hu => by
    match vs, ds, h with
    | v :: vs, d :: ds, h =>
      have hm0 := hm 0 (by simp)
      simp only [Nat.add_zero, List.getD_cons_zero] at hm0
      refine ⟨?_, resCellsO_rel h.2 (fun i hi => by have := hm (i + 1) (by simp; omega); rw [show j + 1 + i = j + (i + 1) by omega]; simpa using this) hu⟩
      show Rep w gh.F _ v ((mk j).d K.Φ K.ρ)
      rw [hm0]; exact h.1
  | .ifc :: cs, j, r, vs, ds, us, h, hm, hu => by
    match vs, ds, h with
    | v :: vs, d :: ds, h =>
      have hm0 := hm 0 (by simp)
      simp only [Nat.add_zero, List.getD_cons_zero] at hm0
      refine ⟨?_, resCellsO_rel h.2 (fun i hi => by have := hm (i + 1) (by simp; omega); rw [show j + 1 + i = j + (i + 1) by omega]; simpa using this) hu⟩
      show Rep w gh.F _ v ((mk j).d K.Φ K.ρ)
      rw [hm0]; exact h.1
theorem resTupO_rel {mk : Nat → X} : ∀ {rs : List (Bool × List CT)} {j r : Nat} {vs : List Value} {ds : List D} {us : List Value}, ArgsRepO w gh.F rs vs ds us → (∀ i, i < ds.length → (mk (j + i)).d K.Φ K.ρ = ds.getD i default) →
    (∀ i u, us[i]? = some u → gh.rv (r + i) = u ∧ gh.vr (r + i) = 1) → relT K.Φ K.ρ w gh (resTupO mk j r rs) vs
  | [], j, r, vs, ds, us, h, hm, hu => by
    match vs, h with
    | [], _ => trivial
  | p :: rs, j, r, vs, ds, us, h, hm, hu => by
    match vs, h with
    | v :: vs, h =>
      obtain ⟨d1, d2, u1, u2, rfl, rfl, ⟨cs, hcs, hrep⟩, h2⟩ := h
      have hl := hrep.len
      have h1 := resCellsO_rel (K := K) (gh := gh) (mk := mk) (j := j) (r := r) hrep (fun i hi => by
        have := hm i (by simp; omega)
        rw [this]
        simp only [List.getD]
        rw [List.getElem?_append_left hi]) (fun i u hi => hu i u (by rw [List.getElem?_append_left (List.getElem?_eq_some_iff.1 hi).1]; exact hi))
      refine ⟨?_, resTupO_rel h2 (fun i hi => ?_) fun i u hi => ?_⟩
      · simp only
        split at hcs
        · rename_i hag
          rw [if_pos hag]
          exact ⟨cs.toArray, hcs, h1⟩
        · rename_i hag
          rw [if_neg hag]
          subst hcs
          exact h1
      · have := hm (d1.length + i) (by simp; omega)
        rw [← hl.1, Nat.add_assoc, this]
        simp only [List.getD]
        rw [List.getElem?_append_right (by omega)]
        congr 2
        omega
      · have := hu (u1.length + i) u (by rw [List.getElem?_append_right (by omega)]; simpa using hi)
        rw [hl.2.2] at this
        rw [Nat.add_assoc]; exact this
theorem resSVO_rel {mk : Nat → X} {r : Nat} {rs : List (Bool × List CT)} {s : SV} (h : resSVO mk r rs = some s) {v : Value} {ds : List D} {us : List Value} (hr : ResRepO w gh.F rs v ds us) (hm : ∀ i, i < ds.length → (mk i).d K.Φ K.ρ = ds.getD i default)
    (hu : ∀ i u, us[i]? = some u → gh.rv (r + i) = u ∧ gh.vr (r + i) = 1) : SV.rel K.Φ K.ρ w gh s v := by
  unfold resSVO at h
  unfold ResRepO at hr
  split at h
  · simp only [Option.some.injEq] at h
    subst h
    exact hr.1
  · rename_i p
    obtain ⟨cs, hcs, hrep⟩ := hr
    have h1 := resCellsO_rel (K := K) (gh := gh) (mk := mk) (j := 0) (r := r) hrep (fun i hi => by rw [Nat.zero_add]; exact hm i hi) hu
    have := rel_mkVal h h1
    split at hcs
    · rename_i hag
      rw [hcs]
      simpa [hag] using this
    · rename_i hag
      subst hcs
      simpa [hag] using this
  · simp only [Option.some.injEq] at h
    subst h
    rename_i hne1 hne2
    split at hr
    · exact absurd rfl hne1
    · exact absurd rfl (hne2 _)
    · obtain ⟨cs, e, hrr⟩ := hr
      exact ⟨cs, e, resTupO_rel hrr (fun i hi => by rw [Nat.zero_add]; exact hm i hi) hu⟩
/-- all results' cells in one list -/
theorem argsO_flat {F : Nat → Prop} : ∀ {rs : List (Bool × List CT)} {vs : List Value} {ds : List D} {us : List Value}, ArgsRepO w F rs vs ds us → ∃ cs, RepLO w F (rs.map (·.2)).flatten cs ds us
  | [], vs, ds, us, h => by
    match vs, h with
    | [], h => obtain ⟨rfl, rfl⟩ := h; exact ⟨[], trivial⟩
  | p :: rs, vs, ds, us, h => by
    match vs, h with
    | v :: vs, h =>
      obtain ⟨d1, d2, u1, u2, rfl, rfl, ⟨cs, _, hrep⟩, h2⟩ := h
      obtain ⟨cs', h3⟩ := argsO_flat h2
      exact ⟨cs ++ cs', by simpa using hrep.app h3⟩
theorem resO_flat {F : Nat → Prop} {rs : List (Bool × List CT)} {v : Value} {ds : List D} {us : List Value} (h : ResRepO w F rs v ds us) (hne : rs ≠ []) : ∃ cs, RepLO w F (rs.map (·.2)).flatten cs ds us := by
  match rs, h, hne with
  | [p], h, _ =>
    obtain ⟨cs, _, hrep⟩ := h
    exact ⟨cs, by simpa using hrep⟩
  | p1 :: p2 :: rest, h, _ =>
    obtain ⟨cs, _, hr⟩ := h
    exact argsO_flat hr
theorem flat_rep {F F' : Nat → Prop} {w' : World} {ct : CT} (hc : flatCT ct = true) {v : Value} {d : D} (h : Rep w F ct v d) : Rep w' F' ct v d := by
  cases h with
  | int h => exact .int h
  | bool => exact .bool
  | str h => exact .str h
  | nil => cases hc
  | sl => cases hc
  | pt => cases hc
  | clo => cases hc
  | ifc => cases hc
theorem OwnD.flat {F F' : Nat → Prop} {e : TypeId} {cts : List CT} {v : Value} {d : D} (hc : cts.all flatCT = true) (h : OwnD w F e cts v d) : OwnD w F' e cts v d := by
  obtain ⟨xs, vals, h1, h2, h3⟩ := h
  refine ⟨xs, vals, h1, h2, fun i hi => ⟨(h3 i hi).1, fun j ct hj => ?_⟩⟩
  exact flat_rep (List.all_eq_true.1 hc ct (List.mem_of_getElem? hj)) ((h3 i hi).2 j ct hj)
theorem RepLO.scalar {F F' : Nat → Prop} : ∀ {cts : List CT} (_ : cts.all scalarCT = true) {vs : List Value} {ds : List D} {us : List Value}, RepLO w F cts vs ds us → RepLO w F' cts vs ds us
  | [], _, [], [], [], _ => trivial
  | .osl e cts :: cs, hc, v :: vs, d :: ds, u :: us, h => by
    simp only [List.all_cons, Bool.and_eq_true] at hc
    exact ⟨h.1, h.2.1.flat hc.1, RepLO.scalar hc.2 h.2.2⟩
  | .osl e cts :: cs, _, v :: vs, d :: ds, [], h => by cases h.1
  | .int _ :: cs, hc, v :: vs, d :: ds, us, h => by
    simp only [List.all_cons, Bool.and_eq_true] at hc
    exact ⟨flat_rep (show flatCT (.int _) = true from hc.1) h.1, RepLO.scalar hc.2 h.2⟩
  | .bool :: cs, hc, v :: vs, d :: ds, us, h => by
    simp only [List.all_cons, Bool.and_eq_true] at hc
    exact ⟨flat_rep (show flatCT (.bool) = true from hc.1) h.1, RepLO.scalar hc.2 h.2⟩
  | .str :: cs, hc, v :: vs, d :: ds, us, h => by
    simp only [List.all_cons, Bool.and_eq_true] at hc
    exact ⟨flat_rep (show flatCT (.str) = true from hc.1) h.1, RepLO.scalar hc.2 h.2⟩
  | .sl _ _ :: cs, hc, v :: vs, d :: ds, us, h => by
    simp only [List.all_cons, Bool.and_eq_true] at hc
    exact ⟨flat_rep (show flatCT (.sl _ _) = true from hc.1) h.1, RepLO.scalar hc.2 h.2⟩
  | .pt _ :: cs, hc, v :: vs, d :: ds, us, h => by
    simp only [List.all_cons, Bool.and_eq_true] at hc
    exact ⟨flat_rep (show flatCT (.pt _) = true from hc.1) h.1, RepLO.scalar hc.2 h.2⟩
  | .clo :: cs, hc, v :: vs, d :: ds, us, h => by
    simp only [List.all_cons, Bool.and_eq_true] at hc
    exact ⟨flat_rep (show flatCT (.clo) = true from hc.1) h.1, RepLO.scalar hc.2 h.2⟩
  | .ifc :: cs, hc, v :: vs, d :: ds, us, h => by
    simp only [List.all_cons, Bool.and_eq_true] at hc
    exact ⟨flat_rep (show flatCT (.ifc) = true from hc.1) h.1, RepLO.scalar hc.2 h.2⟩
theorem ArgsRepO.scalar {F F' : Nat → Prop} : ∀ {rs : List (Bool × List CT)} (_ : scalars rs = true) {vs : List Value} {ds : List D} {us : List Value}, ArgsRepO w F rs vs ds us → ArgsRepO w F' rs vs ds us
  | [], _, vs, ds, us, h => by
    match vs, h with
    | [], h => exact h
  | p :: rs, hc, vs, ds, us, h => by
    simp only [scalars, List.all_cons, Bool.and_eq_true] at hc
    match vs, h with
    | v :: vs, h =>
      obtain ⟨d1, d2, u1, u2, e1, e2, ⟨cs, k1, k2⟩, h2⟩ := h
      exact ⟨d1, d2, u1, u2, e1, e2, ⟨cs, k1, k2.scalar hc.1⟩, ArgsRepO.scalar (by simpa [scalars] using hc.2) h2⟩
theorem ResRepO.scalar {F F' : Nat → Prop} {rs : List (Bool × List CT)} (hc : scalars rs = true) {v : Value} {ds : List D} {us : List Value} (h : ResRepO w F rs v ds us) : ResRepO w F' rs v ds us := by
  match rs, hc, h with
  | [], _, h => exact h
  | [p], hc, h =>
    simp only [scalars, List.all_cons, Bool.and_eq_true] at hc
    obtain ⟨cs, k1, k2⟩ := h
    exact ⟨cs, k1, k2.scalar hc.1⟩
  | p1 :: p2 :: rest, hc, h =>
    obtain ⟨cs, e, hr⟩ := h
    exact ⟨cs, e, hr.scalar hc⟩
theorem ownWr_nil {mk : Nat → X} {G : X} : ∀ {cts : List CT} {j r : Nat}, oN cts = 0 → ownWr mk G j r cts = []
  | [], _, _, _ => rfl
  | .osl _ _ :: cs, _, _, h => by simp [oN] at h
  | .int _ :: cs, _, _, h => ownWr_nil (cts := cs) h
  | .bool :: cs, _, _, h => ownWr_nil (cts := cs) h
  | .str :: cs, _, _, h => ownWr_nil (cts := cs) h
  | .sl _ _ :: cs, _, _, h => ownWr_nil (cts := cs) h
  | .pt _ :: cs, _, _, h => ownWr_nil (cts := cs) h
  | .clo :: cs, _, _, h => ownWr_nil (cts := cs) h
  | .ifc :: cs, _, _, h => ownWr_nil (cts := cs) h
theorem ownWr_mem {mk : Nat → X} {G : X} : ∀ {cts : List CT} {j r : Nat} {p : Nat × Res}, p ∈ ownWr mk G j r cts → ∃ i, i < oN cts ∧ p.1 = r + i ∧ p.2.g = G
  | [], _, _, _, h => by cases h
  | .osl _ _ :: cs, j, r, p, h => by
    cases h with
    | head => exact ⟨0, by simp [oN], rfl, rfl⟩
    | tail _ h =>
      obtain ⟨i, h1, h2, h3⟩ := ownWr_mem h
      exact ⟨i + 1, by simp [oN]; omega, by omega, h3⟩
  | .int _ :: cs, _, _, _, h => ownWr_mem (cts := cs) h
  | .bool :: cs, _, _, _, h => ownWr_mem (cts := cs) h
  | .str :: cs, _, _, _, h => ownWr_mem (cts := cs) h
  | .sl _ _ :: cs, _, _, _, h => ownWr_mem (cts := cs) h
  | .pt _ :: cs, _, _, _, h => ownWr_mem (cts := cs) h
  | .clo :: cs, _, _, _, h => ownWr_mem (cts := cs) h
  | .ifc :: cs, _, _, _, h => ownWr_mem (cts := cs) h
theorem setAll_off {r : Nat} : ∀ {wr : List (Nat × Res)} {rs : List (Option Res)}, (∀ p ∈ wr, p.1 ≠ r) → (setAll rs wr)[r]? = rs[r]?
  | [], rs, _ => rfl
  | p :: wr, rs, h => by
    show (setAll (rs.set p.1 (some p.2)) wr)[r]? = _
    rw [setAll_off fun q hq => h q (by simp [hq]), List.getElem?_set, if_neg (h p (by simp))]
theorem setAll_app (l : List (Option Res)) : ∀ (wr wr' : List (Nat × Res)), setAll l (wr ++ wr') = setAll (setAll l wr) wr' := by
  intro wr
  induction wr generalizing l with
  | nil => intro wr'; rfl
  | cons p wr ih => intro wr'; exact ih _ wr'

theorem RepL.toO {F : Nat → Prop} : ∀ {cts : List CT} {vs : List Value} {ds : List D}, RepL w F cts vs ds → RepLO w F cts vs ds []
  | [], [], [], _ => trivial
  | .osl _ _ :: _, _ :: _, _ :: _, h => by cases h.1
  | .int _ :: _, _ :: _, _ :: _, h => ⟨h.1, h.2.toO⟩
  | .bool :: _, _ :: _, _ :: _, h => ⟨h.1, h.2.toO⟩
  | .str :: _, _ :: _, _ :: _, h => ⟨h.1, h.2.toO⟩
  | .sl _ _ :: _, _ :: _, _ :: _, h => ⟨h.1, h.2.toO⟩
  | .pt _ :: _, _ :: _, _ :: _, h => ⟨h.1, h.2.toO⟩
  | .clo :: _, _ :: _, _ :: _, h => ⟨h.1, h.2.toO⟩
  | .ifc :: _, _ :: _, _ :: _, h => ⟨h.1, h.2.toO⟩
theorem ArgsRep.toO {F : Nat → Prop} : ∀ {rs : List (Bool × List CT)} {vs : List Value} {ds : List D}, ArgsRep w F rs vs ds → ArgsRepO w F rs vs ds []
  | [], [], _, h => ⟨h, rfl⟩
  | _ :: _, _ :: _, _, ⟨d1, d2, e, ⟨cs, h1, h2⟩, h3⟩ => ⟨d1, d2, [], [], e, rfl, ⟨cs, h1, h2.toO⟩, h3.toO⟩
theorem ResRep.toO {F : Nat → Prop} {rs : List (Bool × List CT)} {v : Value} {ds : List D} (h : ResRep w F rs v ds) : ResRepO w F rs v ds [] := by
  match rs, h with
  | [], h => exact ⟨h, rfl⟩
  | [_], ⟨cs, h1, h2⟩ => exact ⟨cs, h1, h2.toO⟩
  | _ :: _ :: _, ⟨cs, e, h⟩ => exact ⟨cs, e, h.toO⟩
theorem ownNew_nil {w' : World} {F : Nat → Prop} : OwnNew w w' F [] := ⟨by simp, List.Pairwise.nil⟩

end
end Go.RV
