/-
  RV, part 15: the state behind a loop.
-/
import Derived.Test.YthnilbkkihmpoaaRvLoop
namespace Go.RV
open Go.RowKit

section
variable {P : Program} {K : Ctx} {σ : St} {gh : Gh} {a a' : Act} {w w' : World}

def setVars (ρ : List D) (wv : List Nat) (vals : List D) : List D := (List.range ρ.length).map fun i => match posIn i wv with
  | some j => vals.getD j default
  | none => ρ.getD i default

theorem setVars_length (ρ : List D) (wv : List Nat) (vals : List D) : (setVars ρ wv vals).length = ρ.length := by simp [setVars]

theorem setVars_get (ρ : List D) (wv : List Nat) (vals : List D) {i : Nat} (h : i < ρ.length) : (setVars ρ wv vals).getD i default = match posIn i wv with
  | some j => vals.getD j default
  | none => ρ.getD i default := by
  simp [setVars, List.getD, h]

theorem posIn_get : ∀ {wv : List Nat} {i j : Nat}, posIn i wv = some j → wv[j]? = some i
  | [], _, _, h => by simp [posIn] at h
  | k :: wv, i, j, h => by
    unfold posIn at h
    split at h
    · rename_i e
      simp only [beq_iff_eq] at e
      simp only [Option.some.injEq] at h
      subst h e
      rfl
    · cases hp : posIn i wv with
      | none => rw [hp] at h; cases h
      | some j' =>
        rw [hp] at h
        simp only [Option.map_some, Option.some.injEq] at h
        subst h
        simpa using posIn_get hp

/-- how what is open at a loop's head goes over into what is open at a later one -/
structure LoopLe (L : LoopSig) (Pr : Nat → Prop) (gh gh' : Gh) : Prop where
  β : ∀ r b, gh.β r = some b → gh'.β r = some b
  F : ∀ b, gh.F b → gh'.F b
  Fn : ∀ b, gh'.F b → gh.F b ∨ ¬ Pr b
  rv : ∀ r g e cts i v z, L.head.has r ⟨g, .row e cts (.var i) v z⟩ → L.hv.contains i = false → gh'.rv r = gh.rv r

theorem LoopLe.refl {L : LoopSig} {Pr : Nat → Prop} (gh : Gh) : LoopLe L Pr gh gh := ⟨fun _ _ h => h, fun _ h => h, fun _ h => .inl h, fun _ _ _ _ _ _ _ _ _ => rfl⟩
theorem LoopLe.trans {L : LoopSig} {Pr : Nat → Prop} {g1 g2 g3 : Gh} (h : LoopLe L Pr g1 g2) (k : LoopLe L Pr g2 g3) : LoopLe L Pr g1 g3 :=
  ⟨fun r b hb => k.β r b (h.β r b hb), fun b hb => k.F b (h.F b hb), fun b hb => (k.Fn b hb).elim (h.Fn b) .inr, fun r g e cts i v z h1 h2 => (k.rv r g e cts i v z h1 h2).trans (h.rv r g e cts i v z h1 h2)⟩

def loopCtx (K : Ctx) (L : LoopSig) (args : List X) (σ : St) (gh : Gh) (a : Act) (w : World) : Ctx where
  Φ := K.Φ
  ρ := args.map (X.d K.Φ K.ρ)
  Pr := fun b => K.Pr b ∨ gh.F b ∨ ∃ r x, listed L.head.res r = false ∧ σ.has r x ∧ x.on K ∧ x.k.live gh r = some b
  w0 := w
  wok := fun n => L.ws.contains n
  a0 := a
  gh0 := gh.cut L.head.res

theorem loop_enter (h : Inv K σ gh a w) {L : LoopSig} {args : List X} (hm : matchHead L.head L.nv σ = some args) : Inv (loopCtx K L args σ gh a w) L.head (gh.cut L.head.res) a w := by
  refine match_inv h hm rfl rfl rfl (fun _ _ => rfl) rfl rfl rfl (Nat.le_refl _) (fun _ _ => rfl) (fun b hb => ?_) (fun r x b hl hx hon hlive hb => ?_)
  · rcases hb with hb | hb | ⟨r, x, _, hx, hon, hl⟩
    · exact Nat.lt_of_lt_of_le (h.prlt b hb) h.grow
    · exact h.Flt b hb
    · exact (h.own r x b hx hon hl).2.2
  · obtain ⟨o1, o2, _⟩ := h.own r x b hx hon hlive
    rcases hb with hb | hb | ⟨r', x', hl', hx', hon', hlive'⟩
    · exact o1 hb
    · exact o2 hb
    · have := h.inj r x r' x' b hx hon hx' hon' hlive hlive'
      subst this
      rw [hl] at hl'
      cases hl'

/-- what the state behind a loop leaves open -/
def afterGh (L : LoopSig) (σ : St) (gh ghL : Gh) : Gh where
  β := fun r => if listed L.head.res r then ghL.β r else gh.β r
  rv := fun r => match L.head.res.getD r none with
    | some ⟨_, .row ..⟩ => ghL.rv r
    | _ => gh.rv r
  vr := fun r => match L.head.res.getD r none with
    | some ⟨_, .row ..⟩ => versOf L σ r
    | _ => gh.vr r
  F := ghL.F

theorem zipSlots_get {ws : List Nat} {f : SV → SV} : ∀ {as bs : List SV} {k : Nat}, as.length = bs.length → (zipSlots ws f k as bs).length = bs.length ∧ ∀ (n : Nat) s, (zipSlots ws f k as bs)[n]? = some s → ∃ x y, as[n]? = some x ∧ bs[n]? = some y ∧ s = if ws.contains (k + n) then f x else y
  | [], [], k, _ => by simp [zipSlots]
  | x :: as, y :: bs, k, h => by
    obtain ⟨i1, i2⟩ := zipSlots_get (ws := ws) (f := f) (as := as) (bs := bs) (k := k + 1) (by simpa using h)
    refine ⟨by simp [zipSlots, i1], fun n s hs => ?_⟩
    cases n with
    | zero =>
      simp only [zipSlots, List.getElem?_cons_zero, Option.some.injEq] at hs
      exact ⟨x, y, rfl, rfl, hs.symm⟩
    | succ n =>
      simp only [zipSlots, List.getElem?_cons_succ] at hs
      obtain ⟨x', y', h1, h2, h3⟩ := i2 n s hs
      refine ⟨x', y', by simpa using h1, by simpa using h2, ?_⟩
      rw [h3]
      have : k + 1 + n = k + (n + 1) := by omega
      rw [this]
  | [], _ :: _, k, h => by simp at h
  | _ :: _, [], k, h => by simp at h

theorem zipRes_get {f : Nat → RK → RK} : ∀ {as bs : List (Option Res)} {k : Nat}, as.length ≤ bs.length → (zipRes f k as bs).length = bs.length ∧ ∀ (r : Nat), (∀ y, as[r]? = some (some y) → (zipRes f k as bs)[r]? = some (some ⟨tt, f (k + r) y.k⟩)) ∧ ((∀ y, as[r]? ≠ some (some y)) → (zipRes f k as bs)[r]? = bs[r]?)
  | [], bs, k, _ => by simp [zipRes]
  | some x :: as, y :: bs, k, h => by
    obtain ⟨i1, i2⟩ := zipRes_get (f := f) (as := as) (bs := bs) (k := k + 1) (by simpa using h)
    refine ⟨by simp [zipRes, i1], fun r => ?_⟩
    cases r with
    | zero => simp [zipRes]
    | succ r =>
      have e : k + 1 + r = k + (r + 1) := by omega
      have := i2 r
      rw [e] at this
      simpa [zipRes] using this
  | none :: as, y :: bs, k, h => by
    obtain ⟨i1, i2⟩ := zipRes_get (f := f) (as := as) (bs := bs) (k := k + 1) (by simpa using h)
    refine ⟨by simp [zipRes, i1], fun r => ?_⟩
    cases r with
    | zero => simp [zipRes]
    | succ r =>
      have e : k + 1 + r = k + (r + 1) := by omega
      have := i2 r
      rw [e] at this
      simpa [zipRes] using this
  | _ :: _, [], k, h => by simp at h

section
variable {hs rs : List (Option Res)} {sub : Nat → X} {vers : Nat → Nat} {Φ : FuncId → List D → List D} {ρ ρf : List D} {ghL gh2 : Gh}

structure InstOk (hs rs : List (Option Res)) (vers : Nat → Nat) (ghL gh2 : Gh) : Prop where
  β : ∀ r b, listed hs r = true → ghL.β r = some b → gh2.β r = some b
  F : gh2.F = ghL.F
  row : ∀ r, listed hs r = true → (∃ g e c x v z, rs.getD r none = some ⟨g, .row e c x v z⟩) → gh2.rv r = ghL.rv r ∧ gh2.vr r = vers r ∧ 1 ≤ vers r ∧ ghL.vr r = 1

theorem instSC_rel (hi : InstOk hs rs vers ghL gh2) {s t : SC} {l : List (Nat × X)} (hm : matchSC hs rs s t = some l) (hb : ∀ p ∈ l, (sub p.1).d Φ ρ = ρf.getD p.1 default) {v : Value} (hr : SC.rel Φ ρf w ghL s v) : SC.rel Φ ρ w gh2 (instSC sub vers s) v := by
  unfold matchSC at hm
  split at hm
  · trivial
  · rename_i e cts i
    simp only [Option.some.injEq] at hm
    subst hm
    have := hb _ List.mem_cons_self
    show Rep w gh2.F _ _ _
    rw [hi.F, this]
    exact hr
  · split at hm
    · simp only [Option.some.injEq] at hm
      subst hm
      have := hb _ List.mem_cons_self
      show Rep w gh2.F _ _ _
      rw [hi.F, this]
      exact hr
    · cases hm
  · split at hm
    · rename_i hc
      simp only [Bool.and_eq_true, beq_iff_eq] at hc
      obtain ⟨b, h1, h2⟩ := hr
      exact ⟨b, hi.β _ _ hc.2 h1, h2⟩
    · cases hm
  · split at hm
    · rename_i hc
      simp only [Bool.and_eq_true, beq_iff_eq] at hc
      obtain ⟨vs, h1, h2, h3⟩ := hr
      refine ⟨vs, h1, h2, fun j c hc' => ?_⟩
      obtain ⟨b, h4, h5⟩ := h3 j c hc'
      exact ⟨b, hi.β _ _ (List.all_eq_true.1 hc.2 c (List.mem_of_getElem? hc')) h4, h5⟩
    · cases hm
  · split at hm
    · rename_i hc
      simp only [Bool.and_eq_true, beq_iff_eq] at hc
      obtain ⟨⟨rfl, rfl⟩, hl⟩ := hc
      split at hm
      · rename_i hx
        obtain ⟨h1, h2, h3, h4⟩ := hi.row _ hl ⟨_, _, _, _, _, _, hx⟩
        obtain ⟨g0, g1, g2, g3⟩ := hr
        exact ⟨g0, h3, by rw [h2]; exact Nat.le_refl _, fun _ => by rw [h1]; exact g3 h4⟩
      · cases hm
    · cases hm
  · trivial
  · cases hm

theorem instSCs_rel (hi : InstOk hs rs vers ghL gh2) : ∀ {s t : List SC} {l : List (Nat × X)}, matchSCs hs rs s t = some l → (∀ p ∈ l, (sub p.1).d Φ ρ = ρf.getD p.1 default) → ∀ {v : List Value}, relS Φ ρf w ghL s v → relS Φ ρ w gh2 (s.map (instSC sub vers)) v
  | [], [], l, hm, hb, v, hr => by
    cases v with
    | nil => trivial
    | cons => exact hr.elim
  | x :: xs, y :: ys, l, hm, hb, v, hr => by
    cases v with
    | nil => exact hr.elim
    | cons v vs =>
      unfold matchSCs at hm
      split at hm
      · rename_i l1 l2 h1 h2
        simp only [Option.some.injEq] at hm
        subst hm
        exact ⟨instSC_rel hi h1 (fun p hp => hb p (List.mem_append_left _ hp)) hr.1, instSCs_rel hi h2 (fun p hp => hb p (List.mem_append_right _ hp)) hr.2⟩
      · cases hm
  | [], _ :: _, l, hm, _, _, _ => by simp [matchSCs] at hm
  | _ :: _, [], l, hm, _, _, _ => by simp [matchSCs] at hm

theorem instSV_rel (hi : InstOk hs rs vers ghL gh2) {s t : SV} {l : List (Nat × X)} (hm : matchSV hs rs s t = some l) (hb : ∀ p ∈ l, (sub p.1).d Φ ρ = ρf.getD p.1 default) {v : Value} (hr : SV.rel Φ ρf w ghL s v) : SV.rel Φ ρ w gh2 (instSV sub vers s) v := by
  unfold matchSV at hm
  split at hm
  · trivial
  · exact instSC_rel hi hm hb hr
  · obtain ⟨vs, h1, h2⟩ := hr
    exact ⟨vs, h1, instSCs_rel hi hm hb h2⟩
  · cases hm
end

theorem listed_false {hs : List (Option Res)} {r : Nat} (h : listed hs r = false) : ∀ y, hs[r]? ≠ some (some y) := by
  intro y hy
  rw [listed_of hy] at h
  cases h

def afterWith (L : LoopSig) (sub : Nat → X) (σ : St) : St :=
  ⟨zipSlots L.ws (instSV sub (versOf L σ)) 0 L.head.slots σ.slots, zipRes (instRK sub (versOf L σ)) 0 L.head.res σ.res⟩

theorem leave_with (h : Inv K σ gh a w) {L : LoopSig} {args : List X} (hm : matchHead L.head L.nv σ = some args) (hws : L.ws.all K.wok = true) {ghL : Gh} {K' : Ctx} (hΦ : K'.Φ = K.Φ) {sub : Nat → X} (hsub0 : ∀ i, i < L.nv → (sub i).d K.Φ K.ρ = K'.ρ.getD i default)
    (hPr : K'.Pr = (loopCtx K L args σ gh a w).Pr) (hw0 : K'.w0 = w) (hwok : K'.wok = fun n => L.ws.contains n) (ha0 : K'.a0 = a) (hL : Inv K' L.head ghL a' w') (hle : LoopLe L K'.Pr (gh.cut L.head.res) ghL) :
    Inv K (afterWith L sub σ) (afterGh L σ gh ghL) a' w' ∧ gh.le (afterGh L σ gh ghL) := by
  obtain ⟨l, m, hk⟩ := match_ok hm
  have hrows := hk.rows h
  obtain ⟨s1, s2⟩ := matchSVs_get hk.slots
  obtain ⟨r1, r2⟩ := matchRess_get hk.ress
  have hsub : ∀ p ∈ l ++ m, (sub p.1 : X).d K.Φ K.ρ = K'.ρ.getD p.1 default := fun p hp => hsub0 p.1 (hk.bind p hp).2
  -- the rows that are listed
  have rowOf : ∀ r, listed L.head.res r = true → (∃ g e c x v z, σ.res.getD r none = some ⟨g, .row e c x v z⟩) → ∃ gy e cts i z g x v, L.head.res[r]? = some (some ⟨gy, .row e cts (.var i) 1 z⟩) ∧ σ.res[r]? = some (some ⟨g, .row e cts x v z⟩) ∧ isTt g = true ∧ gh.vr r = v ∧ 1 ≤ v ∧
      versOf L σ r = (if L.hv.contains i then v + 1 else v) := by
    intro r hl ⟨g, e, c, x, v, z, hx⟩
    obtain ⟨y, h1, h2⟩ := listed_get hl
    obtain ⟨x', l', h3, h4, h5, h6, _⟩ := r2 r y h1
    have : x' = ⟨g, .row e c x v z⟩ := by simp only [List.getD, h3] at hx; simpa using hx
    subst this
    rcases matchRK_inv h6 with ⟨_, _, _, _, _, e2, _⟩ | ⟨e', cts', i, x', v', z', e1, e2, _⟩
    · cases e2
    · cases e2
      obtain ⟨gy, ky⟩ := y
      simp only at e1
      subst e1
      have hok := h.res r _ h3 (isTt_sound h5)
      refine ⟨gy, e, c, i, z, g, x, v, h1, h3, h5, hok.1, hok.2.1, ?_⟩
      simp only [versOf, h2, hx]
  have hinst : InstOk L.head.res σ.res (versOf L σ) ghL (afterGh L σ gh ghL) := by
    refine ⟨fun r b hl hb => ?_, rfl, fun r hl hx => ?_⟩
    · simp only [afterGh, hl, if_true]
      exact hb
    · obtain ⟨gy, e, cts, i, z, g, x, v, h1, h3, h5, h6, h7, h8⟩ := rowOf r hl hx
      have h2 : L.head.res.getD r none = some ⟨gy, .row e cts (.var i) 1 z⟩ := by simp [List.getD, h1]
      refine ⟨by simp only [afterGh, h2], by simp only [afterGh, h2], by rw [h8]; split <;> omega, ?_⟩
      have := hL.res r _ h1 (by obtain ⟨_, _, _, h4, _⟩ := r2 r _ h1; exact isTt_sound h4)
      exact this.1
  have isRow : ∀ r g e c x v z, L.head.res.getD r none = some ⟨g, .row e c x v z⟩ → listed L.head.res r = true ∧ ∃ g e c x v z, σ.res.getD r none = some ⟨g, .row e c x v z⟩ := by
    intro r g e c x v z hx
    have hl : listed L.head.res r = true := by unfold listed; rw [hx]; rfl
    refine ⟨hl, ?_⟩
    obtain ⟨y, h1, h2⟩ := listed_get hl
    rw [hx] at h2
    cases h2
    obtain ⟨x', l', h3, h4, h5, h6, _⟩ := r2 r _ h1
    rcases matchRK_inv h6 with ⟨_, _, _, _, e1, _⟩ | ⟨e', cts', i, xx, v', z', e1, e2, _⟩
    · cases e1
    · obtain ⟨gx, kx⟩ := x'
      simp only at e2
      subst e2
      exact ⟨gx, e', cts', xx, v', z', by simp [List.getD, h3]⟩
  have hghle : gh.le (afterGh L σ gh ghL) := by
    refine ⟨fun r b hb => ?_, fun r => ?_, fun r h1 h2 => ?_, hle.F⟩
    · simp only [afterGh]
      split
      · rename_i hl
        exact hle.β r b (by simp only [Gh.cut, hl, if_true]; exact hb)
      · exact hb
    · simp only [afterGh]
      split
      · rename_i hx
        obtain ⟨hl, hx'⟩ := isRow _ _ _ _ _ _ _ hx
        obtain ⟨gy, e, cts, i, z, g, x, v, h1, h3, h5, h6, h7, h8⟩ := rowOf r hl hx'
        rw [h8, h6]
        split <;> omega
      · exact Nat.le_refl _
    · simp only [afterGh] at h2 ⊢
      split
      · rename_i hx
        obtain ⟨hl, hx'⟩ := isRow _ _ _ _ _ _ _ hx
        obtain ⟨gy, e, cts, i, z, g, x, v, h1', h3, h5, h6, h7, h8⟩ := rowOf r hl hx'
        rw [hx] at h2
        simp only at h2
        rw [h8, h6] at h2
        have hc : L.hv.contains i = false := by
          cases hc : L.hv.contains i with
          | false => rfl
          | true => rw [hc] at h2; simp at h2
        exact hle.rv r gy e cts i 1 z h1' hc
      · rfl
  have hFmem : ∀ b, gh.F b → w'.heap[b]? = w.heap[b]? := fun b hb => by
    have := hL.pr b (by rw [hPr]; exact .inr (.inl hb))
    rw [hw0] at this
    exact this
  have hPrmem : ∀ b, (loopCtx K L args σ gh a w).Pr b → w'.heap[b]? = w.heap[b]? := fun b hb => by
    have := hL.pr b (by rw [hPr]; exact hb)
    rw [hw0] at this
    exact this
  have hkept : ∀ n, L.ws.contains n = false → a'.tmps.getD n undef = a.tmps.getD n undef := fun n hn => by
    have := hL.kept n (by rw [hwok]; exact hn)
    rw [ha0] at this
    exact this
  have hgrow : w.heap.size ≤ w'.heap.size := by have := hL.grow; rw [hw0] at this; exact this
  obtain ⟨z1, z2⟩ := zipSlots_get (ws := L.ws) (f := instSV sub (versOf L σ)) (k := 0) s1
  obtain ⟨y1, y2⟩ := zipRes_get (f := instRK sub (versOf L σ)) (k := 0) r1
  -- the resources behind the loop
  have resL : ∀ r y, L.head.res[r]? = some (some y) → ∀ x, (afterWith L sub σ).has r x → x = ⟨tt, instRK sub (versOf L σ) r y.k⟩ := by
    intro r y hy x hx
    have := (y2 r).1 y hy
    unfold St.has afterWith at hx
    simp only at hx
    rw [this] at hx
    simp only [Option.some.injEq, Nat.zero_add] at hx
    exact hx.symm
  have resU : ∀ r, listed L.head.res r = false → ∀ x, (afterWith L sub σ).has r x ↔ σ.has r x := by
    intro r hl x
    have := (y2 r).2 (listed_false hl)
    unfold St.has afterWith
    simp only
    rw [this]
  have onL : ∀ r y, L.head.res[r]? = some (some y) → ∃ x, (afterWith L sub σ).has r x ∧ x.on K := by
    intro r y hy
    have := (y2 r).1 y hy
    exact ⟨_, this, rfl⟩
  have headOn : ∀ (r : Nat) (y : Res), L.head.res[r]? = some (some y) → y.on K' := fun r y hy => by
    obtain ⟨_, _, _, h4, _⟩ := r2 r y hy
    exact isTt_sound h4
  have liveL : ∀ r y, L.head.res[r]? = some (some y) → (instRK sub (versOf L σ) r y.k).live (afterGh L σ gh ghL) r = y.k.live ghL r := by
    intro r y hy
    have hl := listed_of hy
    obtain ⟨x', l', h3, h4, h5, h6, _⟩ := r2 r y hy
    rcases matchRK_inv h6 with ⟨e, cs, cs', z, e1, e2, _⟩ | ⟨e', cts', i, x', v', z', e1, e2, _⟩
    · rw [e1]
      cases z <;> simp [instRK, RK.live, afterGh, hl]
    · have hg : L.head.res.getD r none = some ⟨y.g, .row e' cts' (.var i) 1 z'⟩ := by
        obtain ⟨gy, ky⟩ := y
        simp only at e1
        subst e1
        simp [List.getD, hy]
      rw [e1]
      cases z' <;> simp only [instRK, RK.live, afterGh, hg]
  have liveU : ∀ r (k : RK), listed L.head.res r = false → k.live (afterGh L σ gh ghL) r = k.live gh r := by
    intro r k hl
    have hg : L.head.res.getD r none = none := by
      unfold listed at hl
      cases hx : L.head.res.getD r none with
      | none => rfl
      | some y => rw [hx] at hl; cases hl
    cases k with
    | box e c z => cases z <;> simp [RK.live, afterGh, hl]
    | row e c x v z => cases z <;> simp only [RK.live, afterGh, hg]
  have cases' : ∀ r, listed L.head.res r = false ∨ ∃ y, L.head.res[r]? = some (some y) := by
    intro r
    cases hl : listed L.head.res r with
    | false => exact .inl rfl
    | true => obtain ⟨y, hy, _⟩ := listed_get hl; exact .inr ⟨y, hy⟩
  have othersPr : ∀ r x b, listed L.head.res r = false → σ.has r x → x.on K → x.k.live gh r = some b → (loopCtx K L args σ gh a w).Pr b := fun r x b hl hx hon hlive => .inr (.inr ⟨r, x, hl, hx, hon, hlive⟩)
  refine ⟨⟨hL.defers, ?_, fun n s hs => ?_, fun n hn => ?_, ?_, ?_, ?_, Nat.le_trans h.grow hgrow, fun b hb => ?_, h.prlt, hL.Flt, fun r b hb => ?_, fun r hr => ?_, fun r x hx hon => ?_, fun r x b hx hon hl => ?_, fun r x r' x' b hx hon hx' hon' hl hl' => ?_, h.le0.trans hghle, fun b hb => ?_⟩, hghle⟩
  · rw [hL.size, s1]; exact z1.symm
  · obtain ⟨x, y, h1, h2, rfl⟩ := z2 n s hs
    rw [Nat.zero_add]
    cases hc : L.ws.contains n with
    | true =>
      simp only [if_true]
      obtain ⟨l', h3, h4⟩ := s2 n x y h1 h2
      have hrel := hL.slot n x h1
      rw [hΦ] at hrel
      exact instSV_rel hinst h3 (fun p hp => hsub p (List.mem_append_left _ (h4 p hp))) hrel
    | false =>
      simp only [Bool.false_eq_true, if_false]
      rw [hkept n hc]
      exact SV.rel_mono hghle hFmem (h.slot n y h2)
  · have hc : L.ws.contains n = false := by
      cases hc : L.ws.contains n with
      | false => rfl
      | true =>
        have := List.all_eq_true.1 hws n (by simpa using hc)
        rw [hn] at this
        cases this
    rw [hkept n hc]
    exact h.kept n hn
  · have := hL.os; rw [hw0] at this; exact this.trans h.os
  · have := hL.tape; rw [hw0] at this; exact this.trans h.tape
  · have := hL.output; rw [hw0] at this; exact this.trans h.output
  · rw [hPrmem b (.inl hb)]; exact h.pr b hb
  · rcases cases' r with hl | ⟨y, hy⟩
    · simp only [afterGh, hl, Bool.false_eq_true, if_false] at hb
      obtain ⟨x, hx, hon⟩ := h.beta r b hb
      exact ⟨x, (resU r hl x).2 hx, hon⟩
    · exact onL r y hy
  · rcases cases' r with hl | ⟨y, hy⟩
    · have hg : L.head.res.getD r none = none := by
        unfold listed at hl
        cases hx : L.head.res.getD r none with
        | none => rfl
        | some y => rw [hx] at hl; cases hl
      simp only [afterGh, hg] at hr
      obtain ⟨x, hx, hon⟩ := h.vr0 r hr
      exact ⟨x, (resU r hl x).2 hx, hon⟩
    · exact onL r y hy
  · rcases cases' r with hl | ⟨y, hy⟩
    · have hx0 := (resU r hl x).1 hx
      have hg : L.head.res.getD r none = none := by
        unfold listed at hl
        cases hx : L.head.res.getD r none with
        | none => rfl
        | some y => rw [hx] at hl; cases hl
      exact (h.res r x hx0 hon).keep hghle (by simp only [afterGh, hl, Bool.false_eq_true, if_false]) (by simp only [afterGh, hg]) (by simp only [afterGh, hg]) hFmem fun b hb => hPrmem b (othersPr r x b hl hx0 hon hb)
    · have e := resL r y hy x hx
      subst e
      have hl := listed_of hy
      obtain ⟨x', l', h3, h4, h5, h6, h7⟩ := r2 r y hy
      have hokL := hL.res r y hy (headOn r y hy)
      rw [hΦ] at hokL
      rcases matchRK_inv h6 with ⟨e, cs, cs', z, e1, e2, h6⟩ | ⟨e', cts', i, x', v', z', e1, e2, rfl⟩
      · rw [e1] at hokL ⊢
        obtain ⟨b, cur, o1, o2, o3, o4⟩ := hokL
        exact ⟨b, cur, by simp only [afterGh, hl, if_true]; exact o1, o2, instSCs_rel hinst h6 (fun p hp => hsub p (List.mem_append_right _ (h7 p hp))) o3, o4⟩
      · rw [e1] at hokL ⊢
        obtain ⟨o1, o2, o3, o4⟩ := hokL
        have hx' : ∃ g e c x v z, σ.res.getD r none = some ⟨g, .row e c x v z⟩ := by
          rename_i xr
          obtain ⟨gx, kx⟩ := xr
          simp only at e2
          subst e2
          exact ⟨gx, e', cts', x', v', z', by simp [List.getD, h3]⟩
        obtain ⟨i1, i2, i3, i4⟩ := hinst.row r hl hx'
        have hval := hsub (i, x') (List.mem_append_right _ (h7 _ List.mem_cons_self))
        refine ⟨i2, i3, by rw [i1]; exact o3, ?_⟩
        rw [i1]
        simp only at hval ⊢
        rw [hval]
        exact o4
  · rcases cases' r with hl' | ⟨y, hy⟩
    · have hx0 := (resU r hl' x).1 hx
      rw [liveU r _ hl'] at hl
      obtain ⟨o1, o2, o3⟩ := h.own r x b hx0 hon hl
      refine ⟨o1, fun hF => ?_, Nat.lt_of_lt_of_le o3 hgrow⟩
      rcases hle.Fn b hF with h1 | h1
      · exact o2 h1
      · exact h1 (by rw [hPr]; exact othersPr r x b hl' hx0 hon hl)
    · have e := resL r y hy x hx
      subst e
      rw [liveL r y hy] at hl
      obtain ⟨o1, o2, o3⟩ := hL.own r y b hy (headOn r y hy) hl
      exact ⟨fun hp => o1 (by rw [hPr]; exact .inl hp), o2, o3⟩
  · rcases cases' r with hl1 | ⟨y, hy⟩
    · have hx0 := (resU r hl1 x).1 hx
      rw [liveU r _ hl1] at hl
      rcases cases' r' with hl2 | ⟨y', hy'⟩
      · have hx0' := (resU r' hl2 x').1 hx'
        rw [liveU r' _ hl2] at hl'
        exact h.inj r x r' x' b hx0 hon hx0' hon' hl hl'
      · have e := resL r' y' hy' x' hx'
        subst e
        rw [liveL r' y' hy'] at hl'
        exact absurd (by rw [hPr]; exact othersPr r x b hl1 hx0 hon hl) (hL.own r' y' b hy' (headOn r' y' hy') hl').1
    · have e := resL r y hy x hx
      subst e
      rw [liveL r y hy] at hl
      rcases cases' r' with hl2 | ⟨y', hy'⟩
      · have hx0' := (resU r' hl2 x').1 hx'
        rw [liveU r' _ hl2] at hl'
        exact absurd (by rw [hPr]; exact othersPr r' x' b hl2 hx0' hon' hl') (hL.own r y b hy (headOn r y hy) hl).1
      · have e := resL r' y' hy' x' hx'
        subst e
        rw [liveL r' y' hy'] at hl'
        exact hL.inj r y r' y' b hy (headOn r y hy) hy' (headOn r' y' hy') hl hl'
  · rcases hle.Fn b hb with h1 | h1
    · exact h.Fpr b h1
    · exact .inr fun hp => h1 (by rw [hPr]; exact .inl hp)

theorem loop_leave (h : Inv K σ gh a w) {L : LoopSig} {args : List X} (hm : matchHead L.head L.nv σ = some args) (hws : L.ws.all K.wok = true) {ghL : Gh} {vals : List D} {code : D} {K' : Ctx} (hΦ : K'.Φ = K.Φ) (hρ : K'.ρ = setVars (args.map (X.d K.Φ K.ρ)) L.wv vals)
    (hPr : K'.Pr = (loopCtx K L args σ gh a w).Pr) (hw0 : K'.w0 = w) (hwok : K'.wok = fun n => L.ws.contains n) (ha0 : K'.a0 = a) (hL : Inv K' L.head ghL a' w') (hle : LoopLe L K'.Pr (gh.cut L.head.res) ghL) (hfn : K.Φ L.key (args.map (X.d K.Φ K.ρ)) = code :: vals) :
    Inv K (afterLoop L args σ) (afterGh L σ gh ghL) a' w' ∧ gh.le (afterGh L σ gh ghL) := by
  obtain ⟨l, m, hk⟩ := match_ok hm
  refine leave_with h hm hws hΦ (sub := subOf L args) (fun i h2 => ?_) hPr hw0 hwok ha0 hL hle
  have hlt : i < args.length := by rw [hk.len]; exact h2
  rw [hρ, setVars_get _ _ _ (by simpa using hlt)]
  unfold subOf
  cases posIn i L.wv with
  | some j =>
    simp only [X.d, ds_consX, hfn]
    rfl
  | none =>
    simp only
    simp only [List.getD, List.getElem?_map, List.getElem?_eq_getElem hlt, Option.map_some, Option.getD_some]

end
end Go.RV
