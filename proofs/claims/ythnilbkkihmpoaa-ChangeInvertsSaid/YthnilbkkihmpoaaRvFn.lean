/-
  RV, part 17: functions.
-/
import Derived.Test.YthnilbkkihmpoaaRvSlim
namespace Go.RV
open Go.RowKit

section
variable {P : Program} {K : Ctx} {σ : St} {gh : Gh} {a : Act} {w : World} {sg : FuncId → Option Sig}

def flatCts : List (Bool × List CT) → List CT
  | [] => []
  | p :: ps => p.2 ++ flatCts ps

theorem flatCts_length : ∀ {ps : List (Bool × List CT)}, (flatCts ps).length = (ps.map fun p => p.2.length).sum
  | [] => rfl
  | p :: ps => by simp [flatCts, flatCts_length (ps := ps)]

/-- data that fit the parameters -/
def Fits (ps : List (Bool × List CT)) (ds : List D) : Prop := ds.length = (flatCts ps).length ∧ ∀ (i : Nat) ct, (flatCts ps)[i]? = some ct → Wf ct (ds.getD i default)

theorem repL_wf {F : Nat → Prop} : ∀ {cts : List CT} {vs : List Value} {ds : List D}, RepL w F cts vs ds → ∀ (i : Nat) ct, cts[i]? = some ct → Wf ct (ds.getD i default)
  | [], [], [], _, i, ct, h => by simp at h
  | _ :: _, _ :: _, _ :: _, h, 0, ct, hc => by simp at hc; subst hc; simpa using h.1.wf
  | _ :: _, _ :: _, _ :: _, h, i + 1, ct, hc => by simpa using repL_wf h.2 i ct (by simpa using hc)

theorem args_fits {F : Nat → Prop} : ∀ {ps : List (Bool × List CT)} {vs : List Value} {ds : List D}, ArgsRep w F ps vs ds → Fits ps ds
  | [], [], ds, h => by
    have : ds = [] := h
    subst this
    exact ⟨rfl, fun i ct h => by simp [flatCts] at h⟩
  | p :: ps, v :: vs, ds, h => by
    obtain ⟨d1, d2, rfl, ⟨us, _, hrep⟩, h2⟩ := h
    obtain ⟨f1, f2⟩ := args_fits h2
    have hl := (repL_length hrep).1
    refine ⟨by simp [flatCts, hl, f1], fun i ct hc => ?_⟩
    simp only [flatCts] at hc
    by_cases hi : i < p.2.length
    · rw [List.getElem?_append_left hi] at hc
      have := repL_wf hrep i ct hc
      simp only [List.getD] at this ⊢
      rw [List.getElem?_append_left (by omega)]
      exact this
    · rw [List.getElem?_append_right (by omega)] at hc
      have := f2 _ ct hc
      simp only [List.getD] at this ⊢
      rw [List.getElem?_append_right (by omega), hl]
      exact this

theorem args_length {F : Nat → Prop} : ∀ {ps : List (Bool × List CT)} {vs : List Value} {ds : List D}, ArgsRep w F ps vs ds → vs.length = ps.length
  | [], [], _, _ => rfl
  | _ :: _, _ :: _, _, h => by obtain ⟨_, _, _, _, h2⟩ := h; simp [args_length h2]

theorem initCells_eq : ∀ {cts : List CT} {j : Nat}, initCells j cts = resCells X.var j cts
  | [], _ => rfl
  | ct :: cts, j => by simp [initCells, resCells, initCells_eq (cts := cts)]

theorem initSlots_rel : ∀ {ps : List (Bool × List CT)} {vs : List Value} {ds : List D} {j : Nat}, ArgsRep w gh.F ps vs ds → (∀ i, i < ds.length → K.ρ.getD (j + i) default = ds.getD i default) →
    (initSlots j ps).length = vs.length ∧ ∀ (n : Nat) s, (initSlots j ps)[n]? = some s → SV.rel K.Φ K.ρ w gh s (vs.getD n undef)
  | [], [], _, j, _, _ => ⟨rfl, by simp [initSlots]⟩
  | p :: ps, v :: vs, ds, j, h, hm => by
    obtain ⟨d1, d2, rfl, ⟨us, hus, hrep⟩, h2⟩ := h
    have hl := (repL_length hrep).1
    obtain ⟨i1, i2⟩ := initSlots_rel (j := j + p.2.length) h2 fun i hi => by
      have := hm (d1.length + i) (by simp; omega)
      rw [← hl, Nat.add_assoc, this]
      simp only [List.getD]
      rw [List.getElem?_append_right (by omega)]
      congr 2
      omega
    refine ⟨by simp [initSlots, i1], fun n s hs => ?_⟩
    cases n with
    | succ n => simpa using i2 n s (by simpa [initSlots] using hs)
    | zero =>
      simp only [initSlots, List.getElem?_cons_zero, Option.some.injEq] at hs
      subst hs
      simp only [List.getD_cons_zero]
      split
      · rename_i s' hmk
        have h1 := resCells_rel (K := K) (gh := gh) (all := []) (mk := X.var) (j := j) hrep fun i hi => by
          have := hm i (by simp; omega)
          simp only [X.d]
          rw [this]
          simp only [List.getD]
          rw [List.getElem?_append_left hi]
        rw [initCells_eq] at hmk
        have := rel_mkVal hmk h1
        split at hus
        · rename_i hag
          rw [hus]
          simpa [hag] using this
        · rename_i hag
          subst hus
          simpa [hag] using this
      · trivial

def liveAll (K : Ctx) (σ : St) (gh : Gh) (b : Nat) : Prop := gh.F b ∨ ∃ r x, σ.has r x ∧ x.on K ∧ x.k.live gh r = some b

theorem cellRes_rep (h : Inv K σ gh a w) {ct : CT} {s : SC} {e : X} (hc : cellRes σ.res ct s = some e) {v : Value} (hr : SC.rel K.Φ K.ρ w gh s v) : Rep w (liveAll K σ gh) ct v (e.d K.Φ K.ρ) := by
  unfold cellRes at hc
  split at hc
  · rename_i e' cts r ver
    split at hc
    · rename_i g ety cts' content ver' frz hx
      split at hc
      · rename_i hcc
        simp only [Bool.and_eq_true, beq_iff_eq] at hcc
        obtain ⟨⟨⟨hg, rfl⟩, hcb⟩, rfl⟩ := hcc
        have := CT.beqs_eq _ _ hcb
        subst this
        simp only [Option.some.injEq] at hc
        subst hc
        have hx' : σ.has r ⟨g, .row ety cts' content ver frz⟩ := getD_has hx
        have hon : (⟨g, .row ety cts' content ver frz⟩ : Res).on K := isTt_sound hg
        have hok := h.res r _ hx' hon
        obtain ⟨_, _, _, h3⟩ := hr
        have hv := h3 hok.1
        obtain ⟨_, _, _, hok⟩ := hok
        rw [hv]
        cases frz with
        | true =>
          simp only [if_true] at hok
          exact hok.mono (fun _ hb => .inl hb) fun _ _ => rfl
        | false =>
          simp only [Bool.false_eq_true, if_false] at hok
          obtain ⟨xs, vals, hd, hown, hrep⟩ := hok
          rw [hd]
          exact own_rep hown hrep (fun _ hb => .inl hb) fun b hb => .inr ⟨r, _, hx', hon, hb⟩
      · cases hc
    · cases hc
  · simp only [Option.some.injEq] at hc
    subst hc
    obtain ⟨rfl, _⟩ := hr
    exact .nil
  · rename_i ct ct' e'
    split at hc
    · rename_i hcc
      have := CT.beq_eq _ _ hcc
      subst this
      simp only [Option.some.injEq] at hc
      subst hc
      exact Rep.mono (fun _ hb => .inl hb) (fun _ _ => rfl) hr
    · cases hc
  · cases hc

theorem cellsRes_rep (h : Inv K σ gh a w) : ∀ {cts : List CT} {cs : List SC} {es : List X}, cellsRes σ.res cts cs = some es → ∀ {vs : List Value}, relS K.Φ K.ρ w gh cs vs → RepL w (liveAll K σ gh) cts vs (es.map (X.d K.Φ K.ρ))
  | [], [], es, hc, vs, hr => by
    simp only [cellsRes, Option.some.injEq] at hc
    subst hc
    cases vs with
    | nil => trivial
    | cons => exact hr.elim
  | ct :: cts, c :: cs, es, hc, vs, hr => by
    cases vs with
    | nil => exact hr.elim
    | cons v vs =>
      unfold cellsRes at hc
      split at hc
      · rename_i e es' h1 h2
        simp only [Option.some.injEq] at hc
        subst hc
        exact ⟨cellRes_rep h h1 hr.1, cellsRes_rep h h2 hr.2⟩
      · cases hc
  | [], _ :: _, _, hc, _, _ => by simp [cellsRes] at hc
  | _ :: _, [], _, hc, _, _ => by simp [cellsRes] at hc

def resM (tmps : Array Value) : ResultVar → Sem Value
  | .tmp t => pure (tmps.getD t undef)
  | .cell x t => do loadVar t (← asAddr (tmps.getD x undef))

theorem slot_run (h : Inv K σ gh a w) {v : ResultVar} {s : SV} (hs : resSlot P σ v = some s) : ∃ u, (resM a.tmps v).run P w = .ok u w ∧ SV.rel K.Φ K.ρ w gh s u := by
  cases v with
  | tmp t =>
    simp only [resSlot, Option.some.injEq] at hs
    subst hs
    exact ⟨_, rfl, h.opd (.tmp t)⟩
  | cell x t =>
    simp only [resSlot] at hs
    split at hs
    · rename_i r off n ag hsl hsz hag
      split at hs
      · rename_i g e cells z hx
        split at hs
        · rename_i hc2
          simp only [Bool.and_eq_true] at hc2
          have hle := Nat.le_of_ble_eq_true hc2.2
          have hx' : σ.has r ⟨g, .box e cells z⟩ := getD_has hx
          obtain ⟨b, cur, o1, o2, o3, _⟩ := h.res r _ hx' (isTt_sound hc2.1)
          have hp := h.opd (.tmp x)
          simp only [St.opd, hsl] at hp
          obtain ⟨b', h1, h2⟩ := hp
          rw [o1] at h1
          simp only [Option.some.injEq] at h1
          subst h1
          have hlen := relS_length o3
          simp only [Array.length_toList] at hlen
          have h1 : ag = false → n = 1 := by
            intro hag; subst hag
            have := mkVal_one hs
            simp at this
            omega
          have hrr := relS_take n (relS_drop off o3)
          have hload := run_loadVar_cells (P := P) (w := w) (off := off) hsz hag o2 (by omega) h1
          refine ⟨_, ?_, rel_mkVal hs hrr⟩
          have h2' : a.tmps.getD x undef = .pointer (some ⟨b, off, none⟩) := h2
          simp only [resM, h2', asAddr, Sem.run_bind, Sem.run_pure, Result.andThen_ok]
          exact hload
        · cases hs
      · cases hs
    · cases hs

theorem resAll_rep (h : Inv K σ gh a w) : ∀ {rs : List (Bool × List CT)} {rv : List ResultVar} {es : List X}, resAll P σ rs rv = some es →
    ∃ vs : List Value, (rv.mapM (resM a.tmps)).run P w = .ok vs w ∧ vs.length = rs.length ∧ ArgsRep w (liveAll K σ gh) rs vs (es.map (X.d K.Φ K.ρ))
  | [], [], es, hc => by
    simp only [resAll, Option.some.injEq] at hc
    subst hc
    exact ⟨[], rfl, rfl, rfl⟩
  | r :: rs, v :: rv, es, hc => by
    unfold resAll at hc
    split at hc
    · rename_i s hs
      split at hc
      · rename_i e1 e2 h1 h2
        simp only [Option.some.injEq] at hc
        subst hc
        obtain ⟨vs, h3, hl, h4⟩ := resAll_rep h h2
        obtain ⟨u, hu, hrelu⟩ := slot_run (P := P) h hs
        unfold resOne at h1
        split at h1
        · rename_i cs hcs
          obtain ⟨us, hus, hrel⟩ := argCells_rel hcs hrelu
          refine ⟨u :: vs, ?_, by simp [hl], _, _, by simp, ⟨us, hus, cellsRes_rep h h1 hrel⟩, h4⟩
          simp only [List.mapM_cons, Sem.run_bind, hu, Result.andThen_ok]
          rw [h3]
          rfl
        · cases h1
      · cases hc
    · cases hc
  | [], _ :: _, _, hc => by simp [resAll] at hc
  | _ :: _, [], _, hc => by simp [resAll] at hc

theorem results_run (h : Inv K σ gh a w) {fn : Func} {rs : List (Bool × List CT)} {es : List X} (hc : resAll P σ rs fn.results.toList = some es) :
    ∃ v, (results fn a.tmps).run P w = .ok v w ∧ ResRep w (liveAll K σ gh) rs v (es.map (X.d K.Φ K.ρ)) := by
  obtain ⟨vs, h1, hl, h2⟩ := resAll_rep (P := P) h hc
  have hrun : (results fn a.tmps).run P w = .ok (if h : vs.toArray.size = 1 then vs.toArray[0] else .tuple vs.toArray) w := by
    have e : results fn a.tmps = (do let vs ← fn.results.mapM (resM a.tmps); pure (if h : vs.size = 1 then vs[0] else .tuple vs)) := rfl
    rw [e]
    simp only [Array.mapM_eq_mapM_toList, Sem.run_bind, Sem.run_map, h1, Result.andThen_ok]
    simp
  refine ⟨_, hrun, ?_⟩
  match rs, vs, hl, h2 with
  | [], [], _, _ => rfl
  | [r], [v], _, h2 =>
    obtain ⟨d1, d2, e, h3, h4⟩ := h2
    have : d2 = [] := h4
    subst this
    simp only [List.append_nil] at e
    rw [e]
    exact h3
  | r1 :: r2 :: rs, v1 :: v2 :: vs, _, h2 => exact ⟨(v1 :: v2 :: vs).toArray, by simp, h2⟩

/-! ### results that the caller may go on writing -/
def liveEx (K : Ctx) (σ : St) (gh : Gh) (own : List Nat) (b : Nat) : Prop := gh.F b ∨ ∃ r x, r ∉ own ∧ σ.has r x ∧ x.on K ∧ x.k.live gh r = some b
def OwnSeq (K : Ctx) (σ : St) (gh : Gh) (own : List Nat) : List Value → List Nat → Prop
  | [], rl => rl = []
  | u :: us, rl => (ownB u = none ∧ OwnSeq K σ gh own us rl) ∨ ∃ r rl', rl = r :: rl' ∧ r ∈ own ∧ (∀ b, ownB u = some b → ∃ x, σ.has r x ∧ x.on K ∧ x.k.live gh r = some b) ∧ OwnSeq K σ gh own us rl'
theorem OwnSeq.app {own : List Nat} : ∀ {u1 u2 : List Value} {r1 r2 : List Nat}, OwnSeq K σ gh own u1 r1 → OwnSeq K σ gh own u2 r2 → OwnSeq K σ gh own (u1 ++ u2) (r1 ++ r2)
  | [], _, _, _, h1, h2 => by
    have : _ = [] := h1
    subst this; exact h2
  | u :: us, _, _, _, h1, h2 => by
    rcases h1 with ⟨h, h'⟩ | ⟨r, rl', rfl, h3, h4, h5⟩
    · exact .inl ⟨h, h'.app h2⟩
    · exact .inr ⟨r, rl' ++ _, rfl, h3, h4, h5.app h2⟩
theorem OwnSeq.mem {own : List Nat} : ∀ {us : List Value} {rl : List Nat}, OwnSeq K σ gh own us rl → ∀ u ∈ us, ∀ b, ownB u = some b → ∃ r ∈ rl, r ∈ own ∧ ∃ x, σ.has r x ∧ x.on K ∧ x.k.live gh r = some b
  | [], _, _, u, hu, _, _ => by cases hu
  | v :: us, rl, h, u, hu, b, hb => by
    rcases h with ⟨h, h'⟩ | ⟨r, rl', rfl, h3, h4, h5⟩
    · cases hu with
      | head => rw [h] at hb; cases hb
      | tail _ hu => exact h'.mem u hu b hb
    · cases hu with
      | head =>
        obtain ⟨x, hx⟩ := h4 b hb
        exact ⟨r, by simp, h3, x, hx⟩
      | tail _ hu =>
        obtain ⟨r', hr', hx⟩ := h5.mem u hu b hb
        exact ⟨r', by simp [hr'], hx⟩
theorem OwnSeq.apart (h : Inv K σ gh a w) {own : List Nat} : ∀ {us : List Value} {rl : List Nat}, OwnSeq K σ gh own us rl → rl.Nodup → us.Pairwise fun u u' => ∀ b, ownB u = some b → ownB u' ≠ some b
  | [], _, _, _ => List.Pairwise.nil
  | v :: us, rl, hs, hn => by
    rcases hs with ⟨h1, h'⟩ | ⟨r, rl', rfl, h3, h4, h5⟩
    · exact List.pairwise_cons.2 ⟨fun u' _ b hb => (by rw [h1] at hb; cases hb), h'.apart h hn⟩
    · rw [List.nodup_cons] at hn
      refine List.pairwise_cons.2 ⟨fun u' hu' b hb hb' => ?_, h5.apart h hn.2⟩
      obtain ⟨x, hx, hon, hl⟩ := h4 b hb
      obtain ⟨r', hr', _, x', hx', hon', hl'⟩ := h5.mem u' hu' b hb'
      have := h.inj r x r' x' b hx hon hx' hon' hl hl'
      subst this
      exact hn.1 hr'
theorem nodupB_spec : ∀ {l : List Nat}, nodupB l = true → l.Nodup
  | [], _ => List.nodup_nil
  | r :: rs, h => by
    simp only [nodupB, Bool.and_eq_true, Bool.not_eq_true'] at h
    exact List.nodup_cons.2 ⟨by simpa using h.1, nodupB_spec h.2⟩

theorem liveAll_ex {own : List Nat} (h0 : own = []) {b : Nat} (h : liveAll K σ gh b) : liveEx K σ gh own b := by
  subst h0
  rcases h with h | ⟨r, x, h⟩
  · exact .inl h
  · exact .inr ⟨r, x, by simp, h⟩
theorem cellRes_ex (h : Inv K σ gh a w) {own : List Nat} {ct : CT} {s : SC} {e : X} (hc : cellRes σ.res ct s = some e) (hno : ∀ r ver, s = .row r ver → r ∉ own) {v : Value} (hr : SC.rel K.Φ K.ρ w gh s v) : Rep w (liveEx K σ gh own) ct v (e.d K.Φ K.ρ) := by
  unfold cellRes at hc
  split at hc
  · rename_i e' cts r ver
    split at hc
    · rename_i g ety cts' content ver' frz hx
      split at hc
      · rename_i hcc
        simp only [Bool.and_eq_true, beq_iff_eq] at hcc
        obtain ⟨⟨⟨hg, rfl⟩, hcb⟩, rfl⟩ := hcc
        have := CT.beqs_eq _ _ hcb
        subst this
        simp only [Option.some.injEq] at hc
        subst hc
        have hx' : σ.has r ⟨g, .row ety cts' content ver frz⟩ := getD_has hx
        have hon : (⟨g, .row ety cts' content ver frz⟩ : Res).on K := isTt_sound hg
        have hok := h.res r _ hx' hon
        obtain ⟨_, _, _, h3⟩ := hr
        have hv := h3 hok.1
        obtain ⟨_, _, _, hok⟩ := hok
        rw [hv]
        cases frz with
        | true =>
          simp only [if_true] at hok
          exact hok.mono (fun _ hb => .inl hb) fun _ _ => rfl
        | false =>
          simp only [Bool.false_eq_true, if_false] at hok
          obtain ⟨xs, vals, hd, hown, hrep⟩ := hok
          rw [hd]
          exact own_rep hown hrep (fun _ hb => .inl hb) fun b hb => .inr ⟨r, _, hno r ver rfl, hx', hon, hb⟩
      · cases hc
    · cases hc
  · simp only [Option.some.injEq] at hc
    subst hc
    obtain ⟨rfl, _⟩ := hr
    exact .nil
  · rename_i ct ct' e'
    split at hc
    · rename_i hcc
      have := CT.beq_eq _ _ hcc
      subst this
      simp only [Option.some.injEq] at hc
      subst hc
      exact Rep.mono (fun _ hb => .inl hb) (fun _ _ => rfl) hr
    · cases hc
  · cases hc

theorem cellResO_plain {own : List Nat} {rs : List (Option Res)} {ct : CT} (hno : ∀ e cts, ct ≠ .osl e cts) {s : SC} {e : X} (hc : cellResO own rs ct s = some e) : cellRes rs ct s = some e ∧ ∀ r ver, s = .row r ver → r ∉ own := by
  unfold cellResO at hc
  split at hc
  · exact absurd rfl (hno _ _)
  · exact absurd rfl (hno _ _)
  · exact absurd rfl (hno _ _)
  · split at hc
    · cases hc
    · rename_i r ver hr
      exact ⟨hc, fun r' ver' e' => by
        simp only [SC.row.injEq] at e'
        obtain ⟨rfl, _⟩ := e'
        simpa using hr⟩
  · rename_i hx
    refine ⟨hc, fun r ver e' => ?_⟩
    subst e'
    exfalso
    unfold cellRes at hc
    split at hc
    · rename_i h1 h2
      first | exact hx _ _ _ _ rfl rfl | exact absurd rfl (hx _ _ _ _ · rfl) | simp_all
    all_goals simp_all
theorem cellResO_own (h : Inv K σ gh a w) {own : List Nat} {ety : TypeId} {cts : List CT} {s : SC} {e : X} (hc : cellResO own σ.res (.osl ety cts) s = some e) {v : Value} (hr : SC.rel K.Φ K.ρ w gh s v) :
    OwnD w (liveEx K σ gh own) ety cts v (e.d K.Φ K.ρ) ∧ ((∃ r ver, s = .row r ver ∧ r ∈ own ∧ ∀ b, ownB v = some b → ∃ x, σ.has r x ∧ x.on K ∧ x.k.live gh r = some b) ∨ ((∀ r ver, s ≠ .row r ver) ∧ ownB v = none)) := by
  unfold cellResO at hc
  split at hc
  · rename_i e1 cts1 r ver heq
    simp only [CT.osl.injEq] at heq
    obtain ⟨rfl, rfl⟩ := heq
    split at hc
    · rename_i g ety' cts' content ver' hx
      split at hc
      · rename_i hcc
        simp only [Bool.and_eq_true, beq_iff_eq] at hcc
        obtain ⟨⟨⟨⟨hg, rfl⟩, hcb⟩, rfl⟩, hin⟩ := hcc
        have := CT.beqs_eq _ _ hcb
        subst this
        simp only [Option.some.injEq] at hc
        subst hc
        have hx' : σ.has r ⟨g, .row ety' cts' content ver false⟩ := getD_has hx
        have hon : (⟨g, .row ety' cts' content ver false⟩ : Res).on K := isTt_sound hg
        have hok := h.res r _ hx' hon
        obtain ⟨_, _, _, h3⟩ := hr
        have hv := h3 hok.1
        obtain ⟨_, _, _, hok⟩ := hok
        simp only [Bool.false_eq_true, if_false] at hok
        obtain ⟨xs, vals, hd, hown, hrep⟩ := hok
        subst hv
        exact ⟨⟨xs, vals, hd, hown, hrep.mono (fun _ hb => .inl hb) fun _ _ => rfl⟩, .inl ⟨r, ver, rfl, by simpa using hin, fun b hb => ⟨_, hx', hon, hb⟩⟩⟩
      · cases hc
    · cases hc
  · simp only [Option.some.injEq] at hc
    subst hc
    obtain ⟨rfl, _⟩ := hr
    exact ⟨⟨[], [], rfl, .inl ⟨rfl, rfl, _, rfl⟩, fun i hi => by simp at hi⟩, .inr ⟨fun _ _ e => (by cases e), rfl⟩⟩
  · cases hc
  · rename_i heq; cases heq
  · rename_i hx _ _ _ _
    first | exact absurd rfl (hx _ _) | simp_all

theorem cellsResO_rep (h : Inv K σ gh a w) {own : List Nat} : ∀ {cts : List CT} {cs : List SC} {es : List X}, cellsResO own σ.res cts cs = some es → ∀ {vs : List Value}, relS K.Φ K.ρ w gh cs vs →
    ∃ us, RepLO w (liveEx K σ gh own) cts vs (es.map (X.d K.Φ K.ρ)) us ∧ OwnSeq K σ gh own us (ownCells cts cs)
  | [], [], es, hc, vs, hr => by
    simp only [cellsResO, Option.some.injEq] at hc
    subst hc
    cases vs with
    | nil => exact ⟨[], trivial, rfl⟩
    | cons => exact hr.elim
  | ct :: cts, c :: cs, es, hc, vs, hr => by
    cases vs with
    | nil => exact hr.elim
    | cons v vs =>
      unfold cellsResO at hc
      split at hc
      · rename_i e es' h1 h2
        simp only [Option.some.injEq] at hc
        subst hc
        obtain ⟨us, k1, k2⟩ := cellsResO_rep h h2 hr.2
        cases ct with
        | osl ety ts =>
          obtain ⟨o1, o2⟩ := cellResO_own h h1 hr.1
          refine ⟨v :: us, ⟨rfl, o1, k1⟩, ?_⟩
          rcases o2 with ⟨r, ver, rfl, o3, o4⟩ | ⟨o3, o4⟩
          · exact .inr ⟨r, _, rfl, o3, o4, k2⟩
          · refine .inl ⟨o4, ?_⟩
            have : ownCells (.osl ety ts :: cts) (c :: cs) = ownCells cts cs := by
              cases c <;> first | rfl | exact absurd rfl (o3 _ _)
            rw [this]; exact k2
        | int k =>
          obtain ⟨o1, o2⟩ := cellResO_plain (fun _ _ e => by cases e) h1
          exact ⟨us, ⟨cellRes_ex h o1 o2 hr.1, k1⟩, k2⟩
        | bool =>
          obtain ⟨o1, o2⟩ := cellResO_plain (fun _ _ e => by cases e) h1
          exact ⟨us, ⟨cellRes_ex h o1 o2 hr.1, k1⟩, k2⟩
        | str =>
          obtain ⟨o1, o2⟩ := cellResO_plain (fun _ _ e => by cases e) h1
          exact ⟨us, ⟨cellRes_ex h o1 o2 hr.1, k1⟩, k2⟩
        | sl t ts =>
          obtain ⟨o1, o2⟩ := cellResO_plain (fun _ _ e => by cases e) h1
          exact ⟨us, ⟨cellRes_ex h o1 o2 hr.1, k1⟩, k2⟩
        | pt ts =>
          obtain ⟨o1, o2⟩ := cellResO_plain (fun _ _ e => by cases e) h1
          exact ⟨us, ⟨cellRes_ex h o1 o2 hr.1, k1⟩, k2⟩
        | clo =>
          obtain ⟨o1, o2⟩ := cellResO_plain (fun _ _ e => by cases e) h1
          exact ⟨us, ⟨cellRes_ex h o1 o2 hr.1, k1⟩, k2⟩
        | ifc =>
          obtain ⟨o1, o2⟩ := cellResO_plain (fun _ _ e => by cases e) h1
          exact ⟨us, ⟨cellRes_ex h o1 o2 hr.1, k1⟩, k2⟩
      · cases hc
  | [], _ :: _, _, hc, _, _ => by simp [cellsResO] at hc
  | _ :: _, [], _, hc, _, _ => by simp [cellsResO] at hc
theorem resAllO_rep (h : Inv K σ gh a w) {own : List Nat} : ∀ {rs : List (Bool × List CT)} {rv : List ResultVar} {es : List X}, resAllO P own σ rs rv = some es →
    ∃ vs us, (rv.mapM (resM a.tmps)).run P w = .ok vs w ∧ vs.length = rs.length ∧ ArgsRepO w (liveEx K σ gh own) rs vs (es.map (X.d K.Φ K.ρ)) us ∧ OwnSeq K σ gh own us (ownAll P σ rs rv)
  | [], [], es, hc => by
    simp only [resAllO, Option.some.injEq] at hc
    subst hc
    exact ⟨[], [], rfl, rfl, ⟨rfl, rfl⟩, rfl⟩
  | r :: rs, v :: rv, es, hc => by
    unfold resAllO at hc
    split at hc
    · rename_i cs hs
      split at hc
      · rename_i e1 e2 h1 h2
        simp only [Option.some.injEq] at hc
        subst hc
        obtain ⟨vs, us, h3, hl, h4, h5⟩ := resAllO_rep h h2
        have hs' := hs
        unfold slotCells at hs
        split at hs
        · rename_i s hsl
          obtain ⟨u, hu, hrelu⟩ := slot_run (P := P) h hsl
          obtain ⟨ws, hws, hrel⟩ := argCells_rel hs hrelu
          obtain ⟨u1, k1, k2⟩ := cellsResO_rep h h1 hrel
          refine ⟨u :: vs, u1 ++ us, ?_, by simp [hl], ⟨_, _, u1, us, by simp, rfl, ⟨ws, hws, k1⟩, h4⟩, ?_⟩
          · simp only [List.mapM_cons, Sem.run_bind, hu, Result.andThen_ok]
            rw [h3]
            rfl
          · have : ownAll P σ (r :: rs) (v :: rv) = ownCells r.2 cs ++ ownAll P σ rs rv := by simp only [ownAll, hs']
            rw [this]
            exact k2.app h5
        · cases hs
      · cases hc
    · cases hc
  | [], _ :: _, _, hc => by simp [resAllO] at hc
  | _ :: _, [], _, hc => by simp [resAllO] at hc
theorem results_runO (h : Inv K σ gh a w) {own : List Nat} {fn : Func} {rs : List (Bool × List CT)} {es : List X} (hc : resAllO P own σ rs fn.results.toList = some es) :
    ∃ v us, (results fn a.tmps).run P w = .ok v w ∧ ResRepO w (liveEx K σ gh own) rs v (es.map (X.d K.Φ K.ρ)) us ∧ OwnSeq K σ gh own us (ownAll P σ rs fn.results.toList) := by
  obtain ⟨vs, us, h1, hl, h2, h3⟩ := resAllO_rep (P := P) h hc
  have hrun : (results fn a.tmps).run P w = .ok (if h : vs.toArray.size = 1 then vs.toArray[0] else .tuple vs.toArray) w := by
    have e : results fn a.tmps = (do let vs ← fn.results.mapM (resM a.tmps); pure (if h : vs.size = 1 then vs[0] else .tuple vs)) := rfl
    rw [e]
    simp only [Array.mapM_eq_mapM_toList, Sem.run_bind, Sem.run_map, h1, Result.andThen_ok]
    simp
  refine ⟨_, us, hrun, ?_, h3⟩
  match rs, vs, hl, h2 with
  | [], [], _, h2 => exact ⟨rfl, h2.2⟩
  | [r], [v], _, h2 =>
    obtain ⟨d1, d2, u1, u2, e, e2, h3, h4, h5⟩ := h2
    subst h4 h5
    simp only [List.append_nil] at e e2
    rw [e, e2]
    exact h3
  | r1 :: r2 :: rs, v1 :: v2 :: vs, _, h2 => exact ⟨(v1 :: v2 :: vs).toArray, by simp, h2⟩

/-- THE CONTRACT OF A FUNCTION FROM ITS RUN. -/
theorem meets_of_vt0 {Φ : FuncId → List D → List D} {lt : Nat → Option LoopSig} {pre : FuncId → List D → Prop} (hmx : P.follows .mixedOrders = true) (hM : ∀ f S, sg f = some S → MeetsAt P f S pre Φ) {f : FuncId} {fn : Func} {c : Code} {S : Sig}
    (hf : P.funcs[f]? = some fn) (hb : fn.body = some c) (hname : (fn.name == "runtime.NumGoroutine") = false) (hl : ∀ b ∈ Code.loops c, ∀ L, (firstRegion b).bind lt = some L → LoopMeets P Φ (pre L.key) L b) {vt : VT} (hvt : fnVT P sg lt S fn c = vt)
    {preF : List D → Prop} {fnD : List D → List D} (h : ∀ ds, Fits S.ps ds → preF ds → vt.ok Φ ds pre (fun out => out = fnD ds)) : MeetsFn P f S preF fnD := by
  refine ⟨fun args w => ?_, fun w F vs ds hF hargs hpre => ?_⟩
  · have h1 : fn.name ≠ "runtime.NumGoroutine" := by simpa using hname
    simp [callFunc, hf, h1, hb]
  · have ht := h ds (args_fits hargs) hpre
    rw [← hvt] at ht
    unfold fnVT at ht
    refine calls_of_wp hf hb ?_
    let gh : Gh := ⟨fun _ => none, fun _ => undef, fun _ => 0, F⟩
    let a0 : Act := { tmps := vs.toArray ++ Array.replicate (fn.ntmps - vs.toArray.size) undef, defers := [] }
    let K : Ctx := ⟨Φ, ds, fun b => b < w.heap.size, w, fun _ => true, a0, gh⟩
    have hlen := args_length hargs
    obtain ⟨s1, s2⟩ := initSlots_rel (K := K) (gh := gh) (w := w) (j := 0) hargs (fun i _ => by rw [Nat.zero_add])
    have hI : Inv K (initSt S.ps fn.ntmps) gh a0 w := by
      refine ⟨rfl, ?_, fun n s hs => ?_, fun n _ => rfl, rfl, rfl, rfl, Nat.le_refl _, fun _ _ => rfl, fun _ hb => hb, hF, fun r b hb => (by cases hb), fun r hr => (by simp [gh] at hr), fun r x hx => (by simp [St.has, initSt] at hx), fun r x b hx => (by simp [St.has, initSt] at hx),
        fun r x r' x' b hx => (by simp [St.has, initSt] at hx), Gh.le.refl _, fun _ hb => .inl hb⟩
      · simp only [a0, initSt, Array.size_append, List.size_toArray, Array.size_replicate, List.length_append, List.length_replicate, s1, hlen]
      · simp only [initSt] at hs
        by_cases hn : n < (initSlots 0 S.ps).length
        · rw [List.getElem?_append_left hn] at hs
          have := s2 n s hs
          have e : a0.tmps.getD n undef = vs.getD n undef := by
            have hn' : n < vs.length := by rw [← s1]; exact hn
            simp only [a0, Array.getD_eq_getD_getElem?]
            rw [Array.getElem?_append_left (by simpa using hn')]
            simp [List.getD]
          rw [e]
          exact this
        · rw [List.getElem?_append_right (by omega), List.getElem?_replicate] at hs
          split at hs
          · simp only [Option.some.injEq] at hs
            subst hs
            have hn' : vs.length ≤ n := by rw [← s1]; omega
            show a0.tmps.getD n undef = undef
            simp only [a0, Array.getD_eq_getD_getElem?]
            rw [Array.getElem?_append_right (by simpa using hn'), Array.getElem?_replicate]
            split <;> rfl
          · cases hs
    have hleaf : ∀ k τ gh' a' w' δ, ((fnLeaf P S fn.results.toList k τ).ok Φ (ds ++ δ) pre fun out => out = fnD ds) → Inv { K with ρ := ds ++ δ } τ gh' a' w' →
        a'.defers = [] ∧ ∃ v, (results fn a'.tmps).run P w' = .ok v w' ∧ ∃ v0 F' us, (Ending.returned v) = .returned v0 ∧ ResRepO w' F' S.rs v0 (fnD ds) us ∧ OwnNew w w' F' us ∧ (∀ b, F b → F' b) ∧ (∀ b, F' b → (F b ∨ w.heap.size ≤ b) ∧ b < w'.heap.size) ∧ Below w.heap.size w w' := by
      intro k τ gh' a' w' δ hk hI'
      have hk' : (∃ es, resAll P τ S.rs fn.results.toList = some es ∧ es.map (X.d Φ (ds ++ δ)) = fnD ds) ∨ ∃ es, resAllO P (ownAll P τ S.rs fn.results.toList) τ S.rs fn.results.toList = some es ∧ (ownAll P τ S.rs fn.results.toList).Nodup ∧ es.map (X.d Φ (ds ++ δ)) = fnD ds := by
        cases k with
        | exit id => exact hk.elim
        | normal =>
          simp only [fnLeaf] at hk
          split at hk
          · split at hk
            · rename_i es he
              refine .inl ⟨es, he, ?_⟩
              have := ds_consX (K := { K with ρ := ds ++ δ }) es
              simp only [VT.ok] at hk
              rw [← hk]
              exact this.symm
            · exact hk.elim
          · split at hk
            · rename_i hnd
              split at hk
              · rename_i es he
                refine .inr ⟨es, he, nodupB_spec hnd, ?_⟩
                have := ds_consX (K := { K with ρ := ds ++ δ }) es
                simp only [VT.ok] at hk
                rw [← hk]
                exact this.symm
              · exact hk.elim
            · exact hk.elim
        | ret =>
          simp only [fnLeaf] at hk
          split at hk
          · split at hk
            · rename_i es he
              refine .inl ⟨es, he, ?_⟩
              have := ds_consX (K := { K with ρ := ds ++ δ }) es
              simp only [VT.ok] at hk
              rw [← hk]
              exact this.symm
            · exact hk.elim
          · split at hk
            · rename_i hnd
              split at hk
              · rename_i es he
                refine .inr ⟨es, he, nodupB_spec hnd, ?_⟩
                have := ds_consX (K := { K with ρ := ds ++ δ }) es
                simp only [VT.ok] at hk
                rw [← hk]
                exact this.symm
              · exact hk.elim
            · exact hk.elim
      rcases hk' with hk' | ⟨es, he, hnd, hd⟩
      rotate_left
      · obtain ⟨v, us, hv, hrep, hseq⟩ := results_runO (P := P) hI' he
        have hrep' : ResRepO w' (liveEx { K with ρ := ds ++ δ } τ gh' (ownAll P τ S.rs fn.results.toList)) S.rs v (fnD ds) us := by rw [← hd]; exact hrep
        refine ⟨hI'.defers, v, hv, v, _, us, rfl, hrep', ⟨fun u hu b hb => ?_, hseq.apart hI' hnd⟩, fun b hb => .inl (hI'.le0.F b hb), fun b hb => ?_, ⟨hI'.os, hI'.tape, hI'.output, hI'.grow, fun b hb => hI'.pr b hb⟩⟩
        · obtain ⟨r, _, hro, x, hx, hon, hl⟩ := hseq.mem u hu b hb
          obtain ⟨o1, o2, o3⟩ := hI'.own r x b hx hon hl
          refine ⟨Nat.le_of_not_lt o1, o3, fun hex => ?_⟩
          rcases hex with h1 | ⟨r', x', hr', hx', hon', hl'⟩
          · exact o2 h1
          · have := hI'.inj r x r' x' b hx hon hx' hon' hl hl'
            subst this
            exact hr' hro
        · rcases hb with hb | ⟨r, x, _, hx, hon, hl⟩
          · refine ⟨?_, hI'.Flt b hb⟩
            rcases hI'.Fpr b hb with h1 | h1
            · exact .inl h1
            · exact .inr (Nat.le_of_not_lt h1)
          · obtain ⟨o1, _, o3⟩ := hI'.own r x b hx hon hl
            exact ⟨.inr (Nat.le_of_not_lt o1), o3⟩
      obtain ⟨es, he, hd⟩ := hk'
      obtain ⟨v, hv, hrep⟩ := results_run (P := P) hI' he
      have hrep' : ResRep w' (liveAll { K with ρ := ds ++ δ } τ gh') S.rs v (fnD ds) := by rw [← hd]; exact hrep
      refine ⟨hI'.defers, v, hv, v, liveAll { K with ρ := ds ++ δ } τ gh', [], rfl, hrep'.toO, ownNew_nil, fun b hb => .inl (hI'.le0.F b hb), fun b hb => ?_, ⟨hI'.os, hI'.tape, hI'.output, hI'.grow, fun b hb => hI'.pr b hb⟩⟩
      rcases hb with hb | ⟨r, x, hx, hon, hl⟩
      · refine ⟨?_, hI'.Flt b hb⟩
        rcases hI'.Fpr b hb with h1 | h1
        · exact .inl h1
        · exact .inr (Nat.le_of_not_lt h1)
      · obtain ⟨o1, _, o3⟩ := hI'.own r x b hx hon hl
        exact ⟨.inr (Nat.le_of_not_lt o1), o3⟩
    have hlen0 : (S.ps.map fun p => p.2.length).sum = K.ρ.length := by
      have h1 := (args_fits hargs).1
      show _ = ds.length
      rw [h1, flatCts_length]
    refine ex_ok (K := K) hmx hM c hl rfl rfl hlen0 hI (OT.ok_vt ht) fun k τ gh' a' w' δ hk hI' => ?_
    have := hleaf k τ gh' a' w' δ hk hI'
    cases k with
    | normal => exact this
    | ret => exact this
    | exit id => exact hk.elim

theorem loop_meets {Φ : FuncId → List D → List D} {lt : Nat → Option LoopSig} {pre : FuncId → List D → Prop} (hmx : P.follows .mixedOrders = true) (hM : ∀ f S, sg f = some S → MeetsAt P f S pre Φ) {body : Code}
    (hl : ∀ b ∈ Code.loops body, ∀ L, (firstRegion b).bind lt = some L → LoopMeets P Φ (pre L.key) L b) (L : LoopSig) (μ : List D → Nat) {vt : VT} (hvt : (loopVT P sg lt L body).slim L.nv [] = vt)
    (h : ∀ ρ, ρ.length = L.nv → pre L.key ρ → vt.ok Φ ρ pre (RoundOk Φ (pre L.key) μ L ρ)) : LoopMeets P Φ (pre L.key) L body :=
  loop_meets0 hmx hM hl L μ rfl fun ρ h1 h2 => VT.slim_ok h1.symm (fun k hk => by cases hk) (hvt ▸ h ρ h1 h2)

theorem meets_of_vt {Φ : FuncId → List D → List D} {lt : Nat → Option LoopSig} {pre : FuncId → List D → Prop} (hmx : P.follows .mixedOrders = true) (hM : ∀ f S, sg f = some S → MeetsAt P f S pre Φ) {f : FuncId} {fn : Func} {c : Code} {S : Sig}
    (hf : P.funcs[f]? = some fn) (hb : fn.body = some c) (hname : (fn.name == "runtime.NumGoroutine") = false) (hl : ∀ b ∈ Code.loops c, ∀ L, (firstRegion b).bind lt = some L → LoopMeets P Φ (pre L.key) L b) {vt : VT} (hvt : (fnVT P sg lt S fn c).slim (S.ps.map fun p => p.2.length).sum [] = vt)
    {preF : List D → Prop} {fnD : List D → List D} (h : ∀ ds, Fits S.ps ds → preF ds → vt.ok Φ ds pre (fun out => out = fnD ds)) (hlt : f < 20000 := by decide) : Meets P f S preF fnD := MeetsFn.meets (hf := hlt) <|
  meets_of_vt0 hmx hM hf hb hname hl rfl fun ds h1 h2 => VT.slim_ok (by rw [h1.1, flatCts_length]) (fun k hk => by cases hk) (hvt ▸ h ds h1 h2)

/-- a table of functions that are called -/
structure Ent where
  f : FuncId
  S : Sig
  pre : List D → Prop
  fn : List D → List D

def entOf (l : List Ent) (f : FuncId) : Option Ent := match l with
  | [] => none
  | e :: es => if e.f == f then some e else entOf es f
def sgOf (l : List (FuncId × Sig)) (f : FuncId) : Option Sig := match l with
  | [] => none
  | e :: es => if e.1 == f then some e.2 else sgOf es f

end
end Go.RV
