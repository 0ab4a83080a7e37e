/-
 RV, part 17: functions.; RV, part 17b: contracts of functions that write, from their runs.
-/
import Derived.Test.YtinaaabmmjpijaaDoorZTopGrowsG
namespace Go.RV
open Go.RowKit
section
variable {P : Program} {K : Ctx} {σ : St} {gh : Gh} {a : Act} {w : World} {sg : FuncId → Option Sig}
def flatCts : List (Bool × List CT) → List CT
 | [] => []
 | p :: ps => p.2 ++ flatCts ps
theorem flatCts_length : ∀ {ps : List (Bool × List CT)}, (flatCts ps).length = (ps.map fun p => p.2.length).sum
 | [] => rfl
 | p :: ps => by simp [flatCts, flatCts_length (ps := ps)]
def Fits (ps : List (Bool × List CT)) (ds : List D) : Prop := ds.length = (flatCts ps).length ∧ ∀ (i : Nat) ct, (flatCts ps)[i]? = some ct → Wf ct (ds.getD i default)
theorem repL_wf {F : Nat → Prop} : ∀ {cts : List CT} {vs : List Value} {ds : List D}, RepL w F cts vs ds → ∀ (i : Nat) ct, cts[i]? = some ct → Wf ct (ds.getD i default)
 | [], [], [], _, i, ct, h => by simp at h
 | _ :: _, _ :: _, _ :: _, h, 0, ct, hc => by simp at hc; subst hc; simpa using h.1.wf
 | _ :: _, _ :: _, _ :: _, h, i + 1, ct, hc => by simpa using repL_wf h.2 i ct (by simpa using hc)
theorem args_fits {F : Nat → Prop} : ∀ {ps : List (Bool × List CT)} {vs : List Value} {ds : List D}, ArgsRep w F ps vs ds → Fits ps ds
 | [], [], ds, h => by
  have : ds = [] := h
  subst this
  exact ⟨rfl, fun i ct h => by simp [flatCts] at h⟩
 | p :: ps, v :: vs, ds, h => by
  obtain ⟨d1, d2, rfl, ⟨us, _, hrep⟩, h2⟩ := h
  obtain ⟨f1, f2⟩ := args_fits h2
  have hl := (repL_length hrep).1
  refine ⟨by simp [flatCts, hl, f1], fun i ct hc => ?_⟩
  simp only [flatCts] at hc
  by_cases hi : i < p.2.length
  ·rw [List.getElem?_append_left hi] at hc
   have := repL_wf hrep i ct hc
   simp only [List.getD] at this ⊢
   rw [List.getElem?_append_left (by omega)]
   exact this
  ·rw [List.getElem?_append_right (by omega)] at hc
   have := f2 _ ct hc
   simp only [List.getD] at this ⊢
   rw [List.getElem?_append_right (by omega), hl]
   exact this
theorem args_length {F : Nat → Prop} : ∀ {ps : List (Bool × List CT)} {vs : List Value} {ds : List D}, ArgsRep w F ps vs ds → vs.length = ps.length
 | [], [], _, _ => rfl
 | _ :: _, _ :: _, _, h => by obtain ⟨_, _, _, _, h2⟩ := h; simp [args_length h2]
theorem initCells_eq : ∀ {cts : List CT} {j : Nat}, initCells j cts = resCells X.var j cts
 | [], _ => rfl
 | ct :: cts, j => by simp [initCells, resCells, initCells_eq (cts := cts)]
theorem initSlots_rel : ∀ {ps : List (Bool × List CT)} {vs : List Value} {ds : List D} {j : Nat}, ArgsRep w gh.F ps vs ds → (∀ i, i < ds.length → K.ρ.getD (j + i) default = ds.getD i default) →
  (initSlots j ps).length = vs.length ∧ ∀ (n : Nat) s, (initSlots j ps)[n]? = some s → SV.rel K.Φ K.ρ w gh s (vs.getD n undef)
 | [], [], _, j, _, _ => ⟨rfl, by simp [initSlots]⟩
 | p :: ps, v :: vs, ds, j, h, hm => by
  obtain ⟨d1, d2, rfl, ⟨us, hus, hrep⟩, h2⟩ := h
  have hl := (repL_length hrep).1
  obtain ⟨i1, i2⟩ := initSlots_rel (j := j + p.2.length) h2 fun i hi => by
   have := hm (d1.length + i) (by simp; omega)
   rw [← hl, Nat.add_assoc, this]
   simp only [List.getD]
   rw [List.getElem?_append_right (by omega)]
   congr 2
   omega
  refine ⟨by simp [initSlots, i1], fun n s hs => ?_⟩
  cases n with
  | succ n => simpa using i2 n s (by simpa [initSlots] using hs)
  | zero =>
   simp only [initSlots, List.getElem?_cons_zero, si0] at hs
   subst hs
   simp only [gz0]
   split
   ·rename_i s' hmk
    have h1 := resCells_rel (K := K) (gh := gh) (all := []) (mk := X.var) (j := j) hrep fun i hi => by
     have := hm i (by simp; omega)
     simp only [X.d]
     rw [this]
     simp only [List.getD]
     rw [List.getElem?_append_left hi]
    rw [initCells_eq] at hmk
    have := rel_mkVal hmk h1
    split at hus
    ·rename_i hag
     rw [hus]
     simpa [hag] using this
    ·rename_i hag
     subst hus
     simpa [hag] using this
   ·trivial
def liveAll (K : Ctx) (σ : St) (gh : Gh) (b : Nat) : Prop := gh.F b ∨ ∃ r x, σ.has r x ∧ x.on K ∧ x.k.live gh r = some b
theorem cellRes0_rep (h : Inv K σ gh a w) {ct : CT} {s : SC} {e : X} (hc : cellRes0 σ.res ct s = some e) {v : Value} (hr : SC.rel K.Φ K.ρ w gh s v) : Rep w (liveAll K σ gh) ct v (e.d K.Φ K.ρ) := by
 unfold cellRes0 at hc
 split at hc
 ·rename_i e' cts r ver
  split at hc
  ·rename_i g ety cts' content ver' frz hx
   split at hc
   ·rename_i hcc
    simp only [Bool.and_eq_true, beq_iff_eq] at hcc
    obtain ⟨⟨⟨hg, rfl⟩, hcb⟩, rfl⟩ := hcc
    have := CT.beqs_eq _ _ hcb
    subst this
    simp only [si0] at hc
    subst hc
    have hx' : σ.has r ⟨g, .row ety cts' content ver frz⟩ := getD_has hx
    have hon : (⟨g, .row ety cts' content ver frz⟩ : Res).on K := isTt_sound hg
    have hok := h.res r _ hx' hon
    obtain ⟨_, _, _, h3⟩ := hr
    have hv := h3 hok.1
    obtain ⟨_, _, _, hok⟩ := hok
    rw [hv]
    cases frz with
    | true =>
     simp only [if_true] at hok
     exact hok.mono (fun _ hb => .inl hb) fun _ _ => rfl
    | false =>
     simp only [fe0, if_false] at hok
     obtain ⟨xs, vals, hd, hown, hrep⟩ := hok
     rw [hd]
     exact own_rep hown hrep (fun _ hb => .inl hb) fun b hb => .inr ⟨r, _, hx', hon, hb⟩
   ·cases hc
  ·cases hc
 ·simp only [si0] at hc
  subst hc
  obtain ⟨rfl, _⟩ := hr
  exact .nil
 ·rename_i ct ct' e'
  split at hc
  ·rename_i hcc
   have := CT.beq_eq _ _ hcc
   subst this
   simp only [si0] at hc
   subst hc
   exact Rep.mono (fun _ hb => .inl hb) (fun _ _ => rfl) hr
  ·cases hc
 ·cases hc
theorem cellsRes0_rep (h : Inv K σ gh a w) : ∀ {cts : List CT} {cs : List SC} {es : List X}, cellsRes0 σ.res cts cs = some es → ∀ {vs : List Value}, relS K.Φ K.ρ w gh cs vs →
  es.length = cts.length ∧ ∀ j ct, cts[j]? = some ct → Rep w (liveAll K σ gh) ct (vs.getD j undef) ((es.map (X.d K.Φ K.ρ)).getD j default)
 | [], cs, es, hc, vs, hr => by
  simp only [cellsRes0, si0] at hc
  subst hc
  exact ⟨rfl, by simp⟩
 | ct :: cts, c :: cs, es, hc, vs, hr => by
  cases vs with
  | nil => exact hr.elim
  | cons v vs =>
   unfold cellsRes0 at hc
   split at hc
   ·rename_i e es' h1 h2
    simp only [si0] at hc
    subst hc
    obtain ⟨hl, h3⟩ := cellsRes0_rep h h2 hr.2
    refine ⟨by simp [hl], fun j ct' hj => ?_⟩
    cases j with
    | zero => simp at hj; subst hj; simpa using cellRes0_rep h h1 hr.1
    | succ j => simpa using h3 j ct' (by simpa using hj)
   ·cases hc
 | _ :: _, [], _, hc, _, _ => by simp [cellsRes0] at hc
theorem cellRes_rep (h : Inv K σ gh a w) {ct : CT} {s : SC} {e : X} (hc : cellRes σ.res ct s = some e) {v : Value} (hr : SC.rel K.Φ K.ρ w gh s v) : Rep w (liveAll K σ gh) ct v (e.d K.Φ K.ρ) := by
 unfold cellRes at hc
 split at hc
 ·rename_i cts r off
  split at hc
  ·rename_i g ety cells frz hx
   split at hc
   ·rename_i hcc
    simp only [Bool.and_eq_true] at hcc
    have hle := Nat.le_of_ble_eq_true hcc.2
    cases hxs : cellsRes0 σ.res cts (cells.drop off) with
    | none => simp [hxs] at hc
    | some xs =>
     simp only [hxs, Option.map_some, si0] at hc
     subst hc
     have hx' : σ.has r ⟨g, .box ety cells frz⟩ := getD_has hx
     have hon : (⟨g, .box ety cells frz⟩ : Res).on K := isTt_sound hcc.1
     obtain ⟨b, cur, o1, o2, o3, o4⟩ := h.res r _ hx' hon
     obtain ⟨b', hb', rfl⟩ := hr
     obtain rfl : b = b' := Option.some.inj (o1.symm.trans hb')
     have hlen := relS_length o3
     simp only [Array.length_toList] at hlen
     obtain ⟨c1, c2⟩ := cellsRes0_rep h hxs (relS_drop off o3)
     have e0 : (consX xs).ds K.Φ K.ρ = xs.map (X.d K.Φ K.ρ) := ds_consXa xs
     have e2 : (X.pk (consX xs)).d K.Φ K.ρ = .p (xs.map (X.d K.Φ K.ρ)) := by rw [← e0]; rfl
     rw [e2]
     have hin : liveAll K σ gh b := by
      cases frz with
      | true => exact .inl (o4 rfl)
      | false => exact .inr ⟨r, _, hx', hon, o1⟩
     refine .pns (.pt hin o2 (by omega) (by simpa using c1) fun j ct hj => ?_)
     have e1 : (cur.toList.drop off).getD j undef = cur.getD (off + j) undef := by simp [List.getD, Array.getD_eq_getD_getElem?]
     rw [← e1]
     exact c2 j ct hj
   ·cases hc
  ·cases hc
 ·simp only [si0] at hc
  subst hc
  obtain ⟨rfl, _⟩ := hr
  exact .pnz
 ·split at hc
  ·rename_i hcc
   have := CT.beqs_eq _ _ hcc
   subst this
   simp only [si0] at hc
   subst hc
   exact .pns (Rep.mono (fun _ hb => .inl hb) (fun _ _ => rfl) hr)
  ·cases hc
 ·exact cellRes0_rep h hc hr
theorem cellsRes_rep (h : Inv K σ gh a w) : ∀ {cts : List CT} {cs : List SC} {es : List X}, cellsRes σ.res cts cs = some es → ∀ {vs : List Value}, relS K.Φ K.ρ w gh cs vs → RepL w (liveAll K σ gh) cts vs (es.map (X.d K.Φ K.ρ))
 | [], [], es, hc, vs, hr => by
  simp only [cellsRes, si0] at hc
  subst hc
  cases vs with
  | nil => trivial
  | cons => exact hr.elim
 | ct :: cts, c :: cs, es, hc, vs, hr => by
  cases vs with
  | nil => exact hr.elim
  | cons v vs =>
   unfold cellsRes at hc
   split at hc
   ·rename_i e es' h1 h2
    simp only [si0] at hc
    subst hc
    exact ⟨cellRes_rep h h1 hr.1, cellsRes_rep h h2 hr.2⟩
   ·cases hc
 | [], _ :: _, _, hc, _, _ => by simp [cellsRes] at hc
 | _ :: _, [], _, hc, _, _ => by simp [cellsRes] at hc
def resM (tmps : Array Value) : ResultVar → Sem Value
 | .tmp t => pure (tmps.getD t undef)
 | .cell x t => do loadVar t (← asAddr (tmps.getD x undef))
theorem slot_run (h : Inv K σ gh a w) {v : ResultVar} {s : SV} (hs : resSlot P σ v = some s) : ∃ u, (resM a.tmps v).run P w = .ok u w ∧ SV.rel K.Φ K.ρ w gh s u := by
 cases v with
 | tmp t =>
  simp only [resSlot, si0] at hs
  subst hs
  exact ⟨_, rfl, h.opd (.tmp t)⟩
 | cell x t =>
  simp only [resSlot] at hs
  split at hs
  ·rename_i r off n ag hsl hsz hag
   split at hs
   ·rename_i g e cells z hx
    split at hs
    ·rename_i hc2
     simp only [Bool.and_eq_true] at hc2
     have hle := Nat.le_of_ble_eq_true hc2.2
     have hx' : σ.has r ⟨g, .box e cells z⟩ := getD_has hx
     obtain ⟨b, cur, o1, o2, o3, _⟩ := h.res r _ hx' (isTt_sound hc2.1)
     have hp := h.opd (.tmp x)
     simp only [St.opd, hsl] at hp
     obtain ⟨b', h1, h2⟩ := hp
     rw [o1] at h1
     simp only [si0] at h1
     subst h1
     have hlen := relS_length o3
     simp only [Array.length_toList] at hlen
     have h1 : ag = false → n = 1 := by
      intro hag; subst hag
      have := mkVal_one hs
      simp at this
      omega
     have hrr := relS_take n (relS_drop off o3)
     have hload := run_loadVar_cells (P := P) (w := w) (off := off) hsz hag o2 (by omega) h1
     refine ⟨_, ?_, rel_mkVal hs hrr⟩
     have h2' : a.tmps.getD x undef = .pointer (some ⟨b, off, none⟩) := h2
     simp only [resM, h2', asAddr, Sem.run_bind, Sem.run_pure, Result.andThen_ok]
     exact hload
    ·cases hs
   ·cases hs
  ·cases hs
theorem resAll_rep (h : Inv K σ gh a w) : ∀ {rs : List (Bool × List CT)} {rv : List ResultVar} {es : List X}, resAll P σ rs rv = some es →
  ∃ vs : List Value, (rv.mapM (resM a.tmps)).run P w = .ok vs w ∧ vs.length = rs.length ∧ ArgsRep w (liveAll K σ gh) rs vs (es.map (X.d K.Φ K.ρ))
 | [], [], es, hc => by
  simp only [resAll, si0] at hc
  subst hc
  exact ⟨[], rfl, rfl, rfl⟩
 | r :: rs, v :: rv, es, hc => by
  unfold resAll at hc
  split at hc
  ·rename_i s hs
   split at hc
   ·rename_i e1 e2 h1 h2
    simp only [si0] at hc
    subst hc
    obtain ⟨vs, h3, hl, h4⟩ := resAll_rep h h2
    obtain ⟨u, hu, hrelu⟩ := slot_run (P := P) h hs
    unfold resOne at h1
    split at h1
    ·rename_i cs hcs
     obtain ⟨us, hus, hrel⟩ := argCells_rel hcs hrelu
     refine ⟨u :: vs, ?_, by simp [hl], _, _, by simp, ⟨us, hus, cellsRes_rep h h1 hrel⟩, h4⟩
     simp only [List.mapM_cons, Sem.run_bind, hu, Result.andThen_ok]
     rw [h3]
     rfl
    ·cases h1
   ·cases hc
  ·cases hc
 | [], _ :: _, _, hc => by simp [resAll] at hc
 | _ :: _, [], _, hc => by simp [resAll] at hc
theorem results_run (h : Inv K σ gh a w) {fn : Func} {rs : List (Bool × List CT)} {es : List X} (hc : resAll P σ rs fn.results.toList = some es) :
  ∃ v, (results fn a.tmps).run P w = .ok v w ∧ ResRep w (liveAll K σ gh) rs v (es.map (X.d K.Φ K.ρ)) := by
 obtain ⟨vs, h1, hl, h2⟩ := resAll_rep (P := P) h hc
 have hrun : (results fn a.tmps).run P w = .ok (if h : vs.toArray.size = 1 then vs.toArray[0] else .tuple vs.toArray) w := by
  have e : results fn a.tmps = (do let vs ← fn.results.mapM (resM a.tmps); pure (if h : vs.size = 1 then vs[0] else .tuple vs)) := rfl
  rw [e]
  simp only [Array.mapM_eq_mapM_toList, Sem.run_bind, Sem.run_map, h1, Result.andThen_ok]
  simp
 refine ⟨_, hrun, ?_⟩
 match rs, vs, hl, h2 with
 | [], [], _, _ => rfl
 | [r], [v], _, h2 =>
  obtain ⟨d1, d2, e, h3, h4⟩ := h2
  have : d2 = [] := h4
  subst this
  simp only [List.append_nil] at e
  rw [e]
  exact h3
 | r1 :: r2 :: rs, v1 :: v2 :: vs, _, h2 => exact ⟨(v1 :: v2 :: vs).toArray, by simp, h2⟩
def liveEx (K : Ctx) (σ : St) (gh : Gh) (own : List Nat) (b : Nat) : Prop := gh.F b ∨ ∃ r x, r ∉ own ∧ σ.has r x ∧ x.on K ∧ x.k.live gh r = some b
def OwnSeq (K : Ctx) (σ : St) (gh : Gh) (own : List Nat) : List Value → List Nat → Prop
 | [], rl => rl = []
 | u :: us, rl => (ownB u = none ∧ OwnSeq K σ gh own us rl) ∨ ∃ r rl', rl = r :: rl' ∧ r ∈ own ∧ (∀ b, ownB u = some b → ∃ x, σ.has r x ∧ x.on K ∧ x.k.live gh r = some b) ∧ OwnSeq K σ gh own us rl'
theorem OwnSeq.app {own : List Nat} : ∀ {u1 u2 : List Value} {r1 r2 : List Nat}, OwnSeq K σ gh own u1 r1 → OwnSeq K σ gh own u2 r2 → OwnSeq K σ gh own (u1 ++ u2) (r1 ++ r2)
 | [], _, _, _, h1, h2 => by
  have : _ = [] := h1
  subst this; exact h2
 | u :: us, _, _, _, h1, h2 => by
  rcases h1 with ⟨h, h'⟩ | ⟨r, rl', rfl, h3, h4, h5⟩
  ·exact .inl ⟨h, h'.app h2⟩
  ·exact .inr ⟨r, rl' ++ _, rfl, h3, h4, h5.app h2⟩
theorem OwnSeq.mem {own : List Nat} : ∀ {us : List Value} {rl : List Nat}, OwnSeq K σ gh own us rl → ∀ u ∈ us, ∀ b, ownB u = some b → ∃ r ∈ rl, r ∈ own ∧ ∃ x, σ.has r x ∧ x.on K ∧ x.k.live gh r = some b
 | [], _, _, u, hu, _, _ => by cases hu
 | v :: us, rl, h, u, hu, b, hb => by
  rcases h with ⟨h, h'⟩ | ⟨r, rl', rfl, h3, h4, h5⟩
  ·cases hu with
   | head => rw [h] at hb; cases hb
   | tail _ hu => exact h'.mem u hu b hb
  ·cases hu with
   | head =>
    obtain ⟨x, hx⟩ := h4 b hb
    exact ⟨r, by simp, h3, x, hx⟩
   | tail _ hu =>
    obtain ⟨r', hr', hx⟩ := h5.mem u hu b hb
    exact ⟨r', by simp [hr'], hx⟩
theorem OwnSeq.apart (h : Inv K σ gh a w) {own : List Nat} : ∀ {us : List Value} {rl : List Nat}, OwnSeq K σ gh own us rl → rl.Nodup → us.Pairwise fun u u' => ∀ b, ownB u = some b → ownB u' ≠ some b
 | [], _, _, _ => List.Pairwise.nil
 | v :: us, rl, hs, hn => by
  rcases hs with ⟨h1, h'⟩ | ⟨r, rl', rfl, h3, h4, h5⟩
  ·exact List.pairwise_cons.2 ⟨fun u' _ b hb => (by rw [h1] at hb; cases hb), h'.apart h hn⟩
  ·rw [List.nodup_cons] at hn
   refine List.pairwise_cons.2 ⟨fun u' hu' b hb hb' => ?_, h5.apart h hn.2⟩
   obtain ⟨x, hx, hon, hl⟩ := h4 b hb
   obtain ⟨r', hr', _, x', hx', hon', hl'⟩ := h5.mem u' hu' b hb'
   have := h.inj r x r' x' b hx hon hx' hon' hl hl'
   subst this
   exact hn.1 hr'
theorem nodupB_spec : ∀ {l : List Nat}, nodupB l = true → l.Nodup
 | [], _ => List.nodup_nil
 | r :: rs, h => by
  simp only [nodupB, Bool.and_eq_true, Bool.not_eq_true'] at h
  exact List.nodup_cons.2 ⟨by simpa using h.1, nodupB_spec h.2⟩
theorem cellRes_ex (h : Inv K σ gh a w) {own : List Nat} {ct : CT} {s : SC} {e : X} (hc : cellRes0 σ.res ct s = some e) (hno : ∀ r ver, s = .row r ver → r ∉ own) {v : Value} (hr : SC.rel K.Φ K.ρ w gh s v) : Rep w (liveEx K σ gh own) ct v (e.d K.Φ K.ρ) := by
 unfold cellRes0 at hc
 split at hc
 ·rename_i e' cts r ver
  split at hc
  ·rename_i g ety cts' content ver' frz hx
   split at hc
   ·rename_i hcc
    simp only [Bool.and_eq_true, beq_iff_eq] at hcc
    obtain ⟨⟨⟨hg, rfl⟩, hcb⟩, rfl⟩ := hcc
    have := CT.beqs_eq _ _ hcb
    subst this
    simp only [si0] at hc
    subst hc
    have hx' : σ.has r ⟨g, .row ety cts' content ver frz⟩ := getD_has hx
    have hon : (⟨g, .row ety cts' content ver frz⟩ : Res).on K := isTt_sound hg
    have hok := h.res r _ hx' hon
    obtain ⟨_, _, _, h3⟩ := hr
    have hv := h3 hok.1
    obtain ⟨_, _, _, hok⟩ := hok
    rw [hv]
    cases frz with
    | true =>
     simp only [if_true] at hok
     exact hok.mono (fun _ hb => .inl hb) fun _ _ => rfl
    | false =>
     simp only [fe0, if_false] at hok
     obtain ⟨xs, vals, hd, hown, hrep⟩ := hok
     rw [hd]
     exact own_rep hown hrep (fun _ hb => .inl hb) fun b hb => .inr ⟨r, _, hno r ver rfl, hx', hon, hb⟩
   ·cases hc
  ·cases hc
 ·simp only [si0] at hc
  subst hc
  obtain ⟨rfl, _⟩ := hr
  exact .nil
 ·rename_i ct ct' e'
  split at hc
  ·rename_i hcc
   have := CT.beq_eq _ _ hcc
   subst this
   simp only [si0] at hc
   subst hc
   exact Rep.mono (fun _ hb => .inl hb) (fun _ _ => rfl) hr
  ·cases hc
 ·cases hc
theorem cellResO_plain {own : List Nat} {rs : List (Option Res)} {ct : CT} (hno : ∀ e cts, ct ≠ .osl e cts) {s : SC} {e : X} (hc : cellResO own rs ct s = some e) : cellRes0 rs ct s = some e ∧ ∀ r ver, s = .row r ver → r ∉ own := by
 unfold cellResO at hc
 split at hc
 ·exact absurd rfl (hno _ _)
 ·exact absurd rfl (hno _ _)
 ·exact absurd rfl (hno _ _)
 ·split at hc
  ·cases hc
  ·rename_i r ver hr
   exact ⟨hc, fun r' ver' e' => by
    simp only [SC.row.injEq] at e'
    obtain ⟨rfl, _⟩ := e'
    simpa using hr⟩
 ·rename_i hx
  refine ⟨hc, fun r ver e' => ?_⟩
  subst e'
  exfalso
  unfold cellRes0 at hc
  split at hc
  ·rename_i h1 h2
   first | exact hx _ _ _ _ rfl rfl | exact absurd rfl (hx _ _ _ _ · rfl) | simp_all
  all_goals simp_all
theorem cellResO_own (h : Inv K σ gh a w) {own : List Nat} {ety : TypeId} {cts : List CT} {s : SC} {e : X} (hc : cellResO own σ.res (.osl ety cts) s = some e) {v : Value} (hr : SC.rel K.Φ K.ρ w gh s v) :
  OwnD w (liveEx K σ gh own) ety cts v (e.d K.Φ K.ρ) ∧ ((∃ r ver, s = .row r ver ∧ r ∈ own ∧ ∀ b, ownB v = some b → ∃ x, σ.has r x ∧ x.on K ∧ x.k.live gh r = some b) ∨ ((∀ r ver, s ≠ .row r ver) ∧ ownB v = none)) := by
 unfold cellResO at hc
 split at hc
 ·rename_i e1 cts1 r ver heq
  simp only [CT.osl.injEq] at heq
  obtain ⟨rfl, rfl⟩ := heq
  split at hc
  ·rename_i g ety' cts' content ver' hx
   split at hc
   ·rename_i hcc
    simp only [Bool.and_eq_true, beq_iff_eq] at hcc
    obtain ⟨⟨⟨⟨hg, rfl⟩, hcb⟩, rfl⟩, hin⟩ := hcc
    have := CT.beqs_eq _ _ hcb
    subst this
    simp only [si0] at hc
    subst hc
    have hx' : σ.has r ⟨g, .row ety' cts' content ver false⟩ := getD_has hx
    have hon : (⟨g, .row ety' cts' content ver false⟩ : Res).on K := isTt_sound hg
    have hok := h.res r _ hx' hon
    obtain ⟨_, _, _, h3⟩ := hr
    have hv := h3 hok.1
    obtain ⟨_, _, _, hok⟩ := hok
    simp only [fe0, if_false] at hok
    obtain ⟨xs, vals, hd, hown, hrep⟩ := hok
    subst hv
    exact ⟨⟨xs, vals, hd, hown, hrep.mono (fun _ hb => .inl hb) fun _ _ => rfl⟩, .inl ⟨r, ver, rfl, by simpa using hin, fun b hb => ⟨_, hx', hon, hb⟩⟩⟩
   ·cases hc
  ·cases hc
 ·simp only [si0] at hc
  subst hc
  obtain ⟨rfl, _⟩ := hr
  exact ⟨⟨[], [], rfl, .inl ⟨rfl, rfl, _, rfl⟩, fun i hi => by simp at hi⟩, .inr ⟨fun _ _ e => (by cases e), rfl⟩⟩
 ·cases hc
 ·rename_i heq; cases heq
 ·rename_i hx _ _ _ _
  first | exact absurd rfl (hx _ _) | simp_all
theorem cellsResO_rep (h : Inv K σ gh a w) {own : List Nat} : ∀ {cts : List CT} {cs : List SC} {es : List X}, cellsResO own σ.res cts cs = some es → ∀ {vs : List Value}, relS K.Φ K.ρ w gh cs vs →
  ∃ us, RepLO w (liveEx K σ gh own) cts vs (es.map (X.d K.Φ K.ρ)) us ∧ OwnSeq K σ gh own us (ownCells cts cs)
 | [], [], es, hc, vs, hr => by
  simp only [cellsResO, si0] at hc
  subst hc
  cases vs with
  | nil => exact ⟨[], trivial, rfl⟩
  | cons => exact hr.elim
 | ct :: cts, c :: cs, es, hc, vs, hr => by
  cases vs with
  | nil => exact hr.elim
  | cons v vs =>
   unfold cellsResO at hc
   split at hc
   ·rename_i e es' h1 h2
    simp only [si0] at hc
    subst hc
    obtain ⟨us, k1, k2⟩ := cellsResO_rep h h2 hr.2
    cases ct with
    | osl ety ts =>
     obtain ⟨o1, o2⟩ := cellResO_own h h1 hr.1
     refine ⟨v :: us, ⟨rfl, o1, k1⟩, ?_⟩
     rcases o2 with ⟨r, ver, rfl, o3, o4⟩ | ⟨o3, o4⟩
     ·exact .inr ⟨r, _, rfl, o3, o4, k2⟩
     ·refine .inl ⟨o4, ?_⟩
      have : ownCells (.osl ety ts :: cts) (c :: cs) = ownCells cts cs := by
       cases c <;> first | rfl | exact absurd rfl (o3 _ _)
      rw [this]; exact k2
    | int k =>
     obtain ⟨o1, o2⟩ := cellResO_plain (fun _ _ e => by cases e) h1
     exact ⟨us, ⟨cellRes_ex h o1 o2 hr.1, k1⟩, k2⟩
    | bool =>
     obtain ⟨o1, o2⟩ := cellResO_plain (fun _ _ e => by cases e) h1
     exact ⟨us, ⟨cellRes_ex h o1 o2 hr.1, k1⟩, k2⟩
    | str =>
     obtain ⟨o1, o2⟩ := cellResO_plain (fun _ _ e => by cases e) h1
     exact ⟨us, ⟨cellRes_ex h o1 o2 hr.1, k1⟩, k2⟩
    | sl t ts =>
     obtain ⟨o1, o2⟩ := cellResO_plain (fun _ _ e => by cases e) h1
     exact ⟨us, ⟨cellRes_ex h o1 o2 hr.1, k1⟩, k2⟩
    | pt ts =>
     obtain ⟨o1, o2⟩ := cellResO_plain (fun _ _ e => by cases e) h1
     exact ⟨us, ⟨cellRes_ex h o1 o2 hr.1, k1⟩, k2⟩
    | pn ts =>
     obtain ⟨o1, o2⟩ := cellResO_plain (fun _ _ e => by cases e) h1
     exact ⟨us, ⟨cellRes_ex h o1 o2 hr.1, k1⟩, k2⟩
    | clo =>
     obtain ⟨o1, o2⟩ := cellResO_plain (fun _ _ e => by cases e) h1
     exact ⟨us, ⟨cellRes_ex h o1 o2 hr.1, k1⟩, k2⟩
    | ifc =>
     obtain ⟨o1, o2⟩ := cellResO_plain (fun _ _ e => by cases e) h1
     exact ⟨us, ⟨cellRes_ex h o1 o2 hr.1, k1⟩, k2⟩
   ·cases hc
 | [], _ :: _, _, hc, _, _ => by simp [cellsResO] at hc
 | _ :: _, [], _, hc, _, _ => by simp [cellsResO] at hc
theorem resAllO_rep (h : Inv K σ gh a w) {own : List Nat} : ∀ {rs : List (Bool × List CT)} {rv : List ResultVar} {es : List X}, resAllO P own σ rs rv = some es →
  ∃ vs us, (rv.mapM (resM a.tmps)).run P w = .ok vs w ∧ vs.length = rs.length ∧ ArgsRepO w (liveEx K σ gh own) rs vs (es.map (X.d K.Φ K.ρ)) us ∧ OwnSeq K σ gh own us (ownAll P σ rs rv)
 | [], [], es, hc => by
  simp only [resAllO, si0] at hc
  subst hc
  exact ⟨[], [], rfl, rfl, ⟨rfl, rfl⟩, rfl⟩
 | r :: rs, v :: rv, es, hc => by
  unfold resAllO at hc
  split at hc
  ·rename_i cs hs
   split at hc
   ·rename_i e1 e2 h1 h2
    simp only [si0] at hc
    subst hc
    obtain ⟨vs, us, h3, hl, h4, h5⟩ := resAllO_rep h h2
    have hs' := hs
    unfold slotCells at hs
    split at hs
    ·rename_i s hsl
     obtain ⟨u, hu, hrelu⟩ := slot_run (P := P) h hsl
     obtain ⟨ws, hws, hrel⟩ := argCells_rel hs hrelu
     obtain ⟨u1, k1, k2⟩ := cellsResO_rep h h1 hrel
     refine ⟨u :: vs, u1 ++ us, ?_, by simp [hl], ⟨_, _, u1, us, by simp, rfl, ⟨ws, hws, k1⟩, h4⟩, ?_⟩
     ·simp only [List.mapM_cons, Sem.run_bind, hu, Result.andThen_ok]
      rw [h3]
      rfl
     ·have : ownAll P σ (r :: rs) (v :: rv) = ownCells r.2 cs ++ ownAll P σ rs rv := by simp only [ownAll, hs']
      rw [this]
      exact k2.app h5
    ·cases hs
   ·cases hc
  ·cases hc
 | [], _ :: _, _, hc => by simp [resAllO] at hc
 | _ :: _, [], _, hc => by simp [resAllO] at hc
theorem results_runO (h : Inv K σ gh a w) {own : List Nat} {fn : Func} {rs : List (Bool × List CT)} {es : List X} (hc : resAllO P own σ rs fn.results.toList = some es) :
  ∃ v us, (results fn a.tmps).run P w = .ok v w ∧ ResRepO w (liveEx K σ gh own) rs v (es.map (X.d K.Φ K.ρ)) us ∧ OwnSeq K σ gh own us (ownAll P σ rs fn.results.toList) := by
 obtain ⟨vs, us, h1, hl, h2, h3⟩ := resAllO_rep (P := P) h hc
 have hrun : (results fn a.tmps).run P w = .ok (if h : vs.toArray.size = 1 then vs.toArray[0] else .tuple vs.toArray) w := by
  have e : results fn a.tmps = (do let vs ← fn.results.mapM (resM a.tmps); pure (if h : vs.size = 1 then vs[0] else .tuple vs)) := rfl
  rw [e]
  simp only [Array.mapM_eq_mapM_toList, Sem.run_bind, Sem.run_map, h1, Result.andThen_ok]
  simp
 refine ⟨_, us, hrun, ?_, h3⟩
 match rs, vs, hl, h2 with
 | [], [], _, h2 => exact ⟨rfl, h2.2⟩
 | [r], [v], _, h2 =>
  obtain ⟨d1, d2, u1, u2, e, e2, h3, h4, h5⟩ := h2
  subst h4 h5
  simp only [List.append_nil] at e e2
  rw [e, e2]
  exact h3
 | r1 :: r2 :: rs, v1 :: v2 :: vs, _, h2 => exact ⟨(v1 :: v2 :: vs).toArray, by simp, h2⟩
theorem meets_of_vt0 {Φ : FuncId → List D → List D} {lt : Nat → Option LoopSig} {pre : FuncId → List D → Prop} (hmx : P.follows .mixedOrders = true) (hM : ∀ f S, sg f = some S → MeetsAt P f S pre Φ) {f : FuncId} {fn : Func} {c : Code} {S : Sig}
  (hf : P.funcs[f]? = some fn) (hb : fn.body = some c) (hname : (fn.name == "runtime.NumGoroutine") = false) (hl : ∀ b ∈ Code.loops c, ∀ L, (firstRegion b).bind lt = some L → LoopMeets P Φ (pre L.key) L b) {vt : VT} (hvt : fnVT P sg lt S fn c = vt)
  {preF : List D → Prop} {fnD : List D → List D} (h : ∀ ds, Fits S.ps ds → preF ds → vt.ok Φ ds pre (fun out => out = fnD ds)) : MeetsFn P f S preF fnD := by
 refine ⟨fun args w => ?_, fun w F vs ds hF hT hargs hpre => ?_⟩
 ·have h1 : fn.name ≠ "runtime.NumGoroutine" := by simpa using hname
  simp [callFunc, hf, h1, hb]
 ·have ht := h ds (args_fits hargs) hpre
  rw [← hvt] at ht
  unfold fnVT at ht
  refine calls_of_wp hf hb ?_
  let gh : Gh := ⟨fun _ => none, fun _ => undef, fun _ => 0, F⟩
  let a0 : Act := { tmps := vs.toArray ++ Array.replicate (fn.ntmps - vs.toArray.size) undef, defers := [] }
  let K : Ctx := ⟨Φ, ds, fun b => b < w.heap.size, w, fun _ => true, a0, gh⟩
  have hlen := args_length hargs
  obtain ⟨s1, s2⟩ := initSlots_rel (K := K) (gh := gh) (w := w) (j := 0) hargs (fun i _ => by rw [Nat.zero_add])
  have hI : Inv K (initSt S.ps fn.ntmps) gh a0 w := by
   refine ⟨rfl, ?_, fun n s hs => ?_, fun n _ => rfl, rfl, rfl, rfl, Nat.le_refl _, fun _ _ => rfl, fun _ hb => hb, hF, fun r b hb => (by cases hb), fun r hr => (by simp [gh] at hr), fun r x hx => (by simp [St.has, initSt] at hx), fun r x b hx => (by simp [St.has, initSt] at hx),
    fun r x r' x' b hx => (by simp [St.has, initSt] at hx), Gh.le.refl _, fun _ hb => .inl hb, hT⟩
   ·simp only [a0, initSt, Array.size_append, List.size_toArray, Array.size_replicate, List.length_append, List.length_replicate, s1, hlen]
   ·simp only [initSt] at hs
    by_cases hn : n < (initSlots 0 S.ps).length
    ·rw [List.getElem?_append_left hn] at hs
     have := s2 n s hs
     have e : a0.tmps.getD n undef = vs.getD n undef := by
      have hn' : n < vs.length := by rw [← s1]; exact hn
      simp only [a0, Array.getD_eq_getD_getElem?]
      rw [Array.getElem?_append_left (by simpa using hn')]
      simp [List.getD]
     rw [e]
     exact this
    ·rw [List.getElem?_append_right (by omega), List.getElem?_replicate] at hs
     split at hs
     ·simp only [si0] at hs
      subst hs
      have hn' : vs.length ≤ n := by rw [← s1]; omega
      show a0.tmps.getD n undef = undef
      simp only [a0, Array.getD_eq_getD_getElem?]
      rw [Array.getElem?_append_right (by simpa using hn'), Array.getElem?_replicate]
      split <;> rfl
     ·cases hs
  have hleaf : ∀ k τ gh' a' w' δ, ((fnLeaf P S fn.results.toList k τ).ok Φ (ds ++ δ) pre fun out => out = fnD ds) → Inv { K with ρ := ds ++ δ } τ gh' a' w' →
    a'.defers = [] ∧ ∃ v, (results fn a'.tmps).run P w' = .ok v w' ∧ ∃ v0 F' us, (Ending.returned v) = .returned v0 ∧ ResRepO w' F' S.rs v0 (fnD ds) us ∧ OwnNew w w' F' us ∧ (∀ b, F b → F' b) ∧ (∀ b, F' b → (F b ∨ w.heap.size ≤ b) ∧ b < w'.heap.size) ∧ Below w.heap.size w w' := by
   intro k τ gh' a' w' δ hk hI'
   have hk' : (∃ es, resAll P τ S.rs fn.results.toList = some es ∧ es.map (X.d Φ (ds ++ δ)) = fnD ds) ∨ ∃ es, resAllO P (ownAll P τ S.rs fn.results.toList) τ S.rs fn.results.toList = some es ∧ (ownAll P τ S.rs fn.results.toList).Nodup ∧ es.map (X.d Φ (ds ++ δ)) = fnD ds := by
    cases k with
    | exit id => exact hk.elim
    | normal =>
     simp only [fnLeaf] at hk
     split at hk
     ·split at hk
      ·rename_i es he
       refine .inl ⟨es, he, ?_⟩
       have := ds_consX (K := { K with ρ := ds ++ δ }) es
       simp only [VT.ok] at hk
       rw [← hk]
       exact this.symm
      ·exact hk.elim
     ·split at hk
      ·rename_i hnd
       split at hk
       ·rename_i es he
        refine .inr ⟨es, he, nodupB_spec hnd, ?_⟩
        have := ds_consX (K := { K with ρ := ds ++ δ }) es
        simp only [VT.ok] at hk
        rw [← hk]
        exact this.symm
       ·exact hk.elim
      ·exact hk.elim
    | ret =>
     simp only [fnLeaf] at hk
     split at hk
     ·split at hk
      ·rename_i es he
       refine .inl ⟨es, he, ?_⟩
       have := ds_consX (K := { K with ρ := ds ++ δ }) es
       simp only [VT.ok] at hk
       rw [← hk]
       exact this.symm
      ·exact hk.elim
     ·split at hk
      ·rename_i hnd
       split at hk
       ·rename_i es he
        refine .inr ⟨es, he, nodupB_spec hnd, ?_⟩
        have := ds_consX (K := { K with ρ := ds ++ δ }) es
        simp only [VT.ok] at hk
        rw [← hk]
        exact this.symm
       ·exact hk.elim
      ·exact hk.elim
   rcases hk' with hk' | ⟨es, he, hnd, hd⟩
   rotate_left
   ·obtain ⟨v, us, hv, hrep, hseq⟩ := results_runO (P := P) hI' he
    have hrep' : ResRepO w' (liveEx { K with ρ := ds ++ δ } τ gh' (ownAll P τ S.rs fn.results.toList)) S.rs v (fnD ds) us := by rw [← hd]; exact hrep
    refine ⟨hI'.defers, v, hv, v, _, us, rfl, hrep', ⟨fun u hu b hb => ?_, hseq.apart hI' hnd⟩, fun b hb => .inl (hI'.le0.F b hb), fun b hb => ?_, ⟨hI'.os, hI'.tape, hI'.output, hI'.grow, fun b hb => hI'.pr b hb⟩⟩
    ·obtain ⟨r, _, hro, x, hx, hon, hl⟩ := hseq.mem u hu b hb
     obtain ⟨o1, o2, o3⟩ := hI'.own r x b hx hon hl
     refine ⟨Nat.le_of_not_lt o1, o3, fun hex => ?_⟩
     rcases hex with h1 | ⟨r', x', hr', hx', hon', hl'⟩
     ·exact o2 h1
     ·have := hI'.inj r x r' x' b hx hon hx' hon' hl hl'
      subst this
      exact hr' hro
    ·rcases hb with hb | ⟨r, x, _, hx, hon, hl⟩
     ·refine ⟨?_, hI'.Flt b hb⟩
      rcases hI'.Fpr b hb with h1 | h1
      ·exact .inl h1
      ·exact .inr (Nat.le_of_not_lt h1)
     ·obtain ⟨o1, _, o3⟩ := hI'.own r x b hx hon hl
      exact ⟨.inr (Nat.le_of_not_lt o1), o3⟩
   obtain ⟨es, he, hd⟩ := hk'
   obtain ⟨v, hv, hrep⟩ := results_run (P := P) hI' he
   have hrep' : ResRep w' (liveAll { K with ρ := ds ++ δ } τ gh') S.rs v (fnD ds) := by rw [← hd]; exact hrep
   refine ⟨hI'.defers, v, hv, v, liveAll { K with ρ := ds ++ δ } τ gh', [], rfl, hrep'.toO, ownNew_nil, fun b hb => .inl (hI'.le0.F b hb), fun b hb => ?_, ⟨hI'.os, hI'.tape, hI'.output, hI'.grow, fun b hb => hI'.pr b hb⟩⟩
   rcases hb with hb | ⟨r, x, hx, hon, hl⟩
   ·refine ⟨?_, hI'.Flt b hb⟩
    rcases hI'.Fpr b hb with h1 | h1
    ·exact .inl h1
    ·exact .inr (Nat.le_of_not_lt h1)
   ·obtain ⟨o1, _, o3⟩ := hI'.own r x b hx hon hl
    exact ⟨.inr (Nat.le_of_not_lt o1), o3⟩
  have hlen0 : (S.ps.map fun p => p.2.length).sum = K.ρ.length := by
   have h1 := (args_fits hargs).1
   show _ = ds.length
   rw [h1, flatCts_length]
  refine ex_ok (K := K) hmx hM c hl rfl rfl hlen0 hI (OT.ok_vt ht) fun k τ gh' a' w' δ hk hI' => ?_
  have := hleaf k τ gh' a' w' δ hk hI'
  cases k with
  | normal => exact this
  | ret => exact this
  | exit id => exact hk.elim
theorem loop_meets {Φ : FuncId → List D → List D} {lt : Nat → Option LoopSig} {pre : FuncId → List D → Prop} (hmx : P.follows .mixedOrders = true) (hM : ∀ f S, sg f = some S → MeetsAt P f S pre Φ) {body : Code}
  (hl : ∀ b ∈ Code.loops body, ∀ L, (firstRegion b).bind lt = some L → LoopMeets P Φ (pre L.key) L b) (L : LoopSig) (μ : List D → Nat) {vt : VT} (hvt : (loopVT P sg lt L body).slim L.nv [] = vt)
  (h : ∀ ρ, ρ.length = L.nv → pre L.key ρ → vt.ok Φ ρ pre (RoundOk Φ (pre L.key) μ L ρ)) : LoopMeets P Φ (pre L.key) L body :=
 loop_meets0 hmx hM hl L μ rfl fun ρ h1 h2 => VT.slim_ok h1.symm (fun k hk => by cases hk) (hvt ▸ h ρ h1 h2)
theorem meets_of_vt {Φ : FuncId → List D → List D} {lt : Nat → Option LoopSig} {pre : FuncId → List D → Prop} (hmx : P.follows .mixedOrders = true) (hM : ∀ f S, sg f = some S → MeetsAt P f S pre Φ) {f : FuncId} {fn : Func} {c : Code} {S : Sig}
  (hf : P.funcs[f]? = some fn) (hb : fn.body = some c) (hname : (fn.name == "runtime.NumGoroutine") = false) (hl : ∀ b ∈ Code.loops c, ∀ L, (firstRegion b).bind lt = some L → LoopMeets P Φ (pre L.key) L b) {vt : VT} (hvt : (fnVT P sg lt S fn c).slim (S.ps.map fun p => p.2.length).sum [] = vt)
  {preF : List D → Prop} {fnD : List D → List D} (h : ∀ ds, Fits S.ps ds → preF ds → vt.ok Φ ds pre (fun out => out = fnD ds)) (hlt : f < 20000 := by decide) : Meets P f S preF fnD := MeetsFn.meets (hf := hlt) <|
 meets_of_vt0 hmx hM hf hb hname hl rfl fun ds h1 h2 => VT.slim_ok (by rw [h1.1, flatCts_length]) (fun k hk => by cases hk) (hvt ▸ h ds h1 h2)
structure Ent where
 f : FuncId
 S : Sig
 pre : List D → Prop
 fn : List D → List D
def sgOf (l : List (FuncId × Sig)) (f : FuncId) : Option Sig := match l with
 | [] => none
 | e :: es => if e.1 == f then some e.2 else sgOf es f
end
end Go.RV
namespace Go.RV
open Go.RowKit
def X.isVar : X → Bool | .var _ => true | _ => false
def SC.plain : SC → Bool
 | .x _ e => e.isVar
 | .ra _ _ _ e _ => e.isVar
 | .ea .. => false
 | .pa .. => false
 | .da .. => false
 | .dr .. => false
 | .pdr .. => false
 | _ => true
def SV.plain : SV → Bool
 | .c s => s.plain
 | .agg cs => cs.all SC.plain
 | .und => true
 | .any => true
 | _ => false
def RK.plain : RK → Bool
 | .box _ cs _ => cs.all SC.plain
 | .row _ _ x _ _ => x.isVar
def St.plain (σ : St) : Bool := σ.slots.all SV.plain && σ.res.all fun | some x => isTt x.g && x.k.plain | none => true
section
variable {Φ Φ' : FuncId → List D → List D} {ρ : List D} {w : World} {gh : Gh}
theorem X.d_var {e : X} (h : e.isVar = true) : e.d Φ' ρ = e.d Φ ρ := by
 cases e <;> simp [X.isVar] at h
 rfl
theorem SC.rel_var {s : SC} {v : Value} (h : s.plain = true) : SC.rel Φ' ρ w gh s v ↔ SC.rel Φ ρ w gh s v := by
 cases s with
 | x ct e => simp only [SC.rel, X.d_var (Φ := Φ) (Φ' := Φ') h]
 | ra r ver m e off => simp only [SC.rel, X.d_var (Φ := Φ) (Φ' := Φ') h]
 | ea => simp [SC.plain] at h
 | pa => simp [SC.plain] at h
 | da => simp [SC.plain] at h
 | dr => simp [SC.plain] at h
 | pdr => simp [SC.plain] at h
 | ptr r off => exact Iff.rfl
 | row r ver => exact Iff.rfl
 | fn f caps => exact Iff.rfl
 | cst c => exact Iff.rfl
 | any => exact Iff.rfl
theorem relS_var : ∀ {cs : List SC} {vs : List Value}, cs.all SC.plain = true → (relS Φ' ρ w gh cs vs ↔ relS Φ ρ w gh cs vs)
 | [], [], _ => Iff.rfl
 | [], _ :: _, _ => Iff.rfl
 | _ :: _, [], _ => Iff.rfl
 | s :: cs, v :: vs, h => by
  simp only [List.all_cons, Bool.and_eq_true] at h
  simp only [relS, SC.rel_var (Φ := Φ) (Φ' := Φ') h.1, relS_var h.2]
theorem SV.rel_var {s : SV} {v : Value} (h : s.plain = true) : SV.rel Φ' ρ w gh s v ↔ SV.rel Φ ρ w gh s v := by
 cases s with
 | c s => exact SC.rel_var h
 | agg cs => simp only [SV.rel, relS_var (Φ := Φ) (Φ' := Φ') (cs := cs) h]
 | und => exact Iff.rfl
 | any => exact Iff.rfl
 | tup => simp [SV.plain] at h
 | grd => simp [SV.plain] at h
theorem ResOk_var {r : Nat} {k : RK} (h : k.plain = true) : ResOk Φ' ρ w gh r k ↔ ResOk Φ ρ w gh r k := by
 cases k with
 | box e cs z => simp only [ResOk, relS_var (Φ := Φ) (Φ' := Φ') (cs := cs) h]
 | row e cts x ver z => simp only [ResOk, X.d_var (Φ := Φ) (Φ' := Φ') (e := x) h]
end
section
variable {P : Program} {K : Ctx} {σ : St} {gh : Gh} {a : Act} {w : World} {sg : FuncId → Option Sig}
theorem Inv.switch (h : Inv K σ gh a w) (hp : σ.plain = true) (Φ' : FuncId → List D → List D) : Inv { K with Φ := Φ' } σ gh a w := by
 simp only [St.plain, Bool.and_eq_true] at hp
 obtain ⟨hs, hr⟩ := hp
 have hx : ∀ r x, σ.has r x → isTt x.g = true ∧ x.k.plain = true := fun r x hx => by
  have := List.all_eq_true.1 hr _ (List.mem_of_getElem? hx)
  simpa using this
 have on : ∀ r x, σ.has r x → x.on K ∧ x.on { K with Φ := Φ' } := fun r x h => ⟨isTt_sound (hx r x h).1, isTt_sound (hx r x h).1⟩
 exact ⟨h.defers, h.size, fun n s hn => (SV.rel_var (List.all_eq_true.1 hs s (List.mem_of_getElem? hn))).2 (h.slot n s hn), h.kept, h.os, h.tape, h.output, h.grow, h.pr, h.prlt, h.Flt, fun r b hb => by
   obtain ⟨x, h1, _⟩ := h.beta r b hb
   exact ⟨x, h1, (on r x h1).2⟩, fun r hr => by
   obtain ⟨x, h1, _⟩ := h.vr0 r hr
   exact ⟨x, h1, (on r x h1).2⟩, fun r x h1 _ => (ResOk_var (hx r x h1).2).2 (h.res r x h1 (on r x h1).1), fun r x b h1 _ h2 => h.own r x b h1 (on r x h1).1 h2, fun r x r' x' b h1 _ h2 _ h3 h4 => h.inj r x r' x' b h1 (on r x h1).1 h2 (on r' x' h2).1 h3 h4, h.le0, h.Fpr, h.tab⟩
def procLeaf (P : Program) (S : Sig) (L : LoopSig) (m : Nat) (rv : List ResultVar) (k : EK) (σ : St) : VT := match k with
 | .exit _ => .bad
 | _ => match matchHead ⟨[], L.head.res⟩ m ⟨[], σ.res⟩, resAll P σ S.rs rv with
  | some args, some xs => if sameVars L.wv 0 args && sameRows L σ 0 L.head.res && scalars S.rs then .ret (.cons (.n 0) (consX (L.wv.map (fun i => args.getD i .nil) ++ xs))) else .bad
  | _, _ => .bad
def procVT (P : Program) (sg : FuncId → Option Sig) (lt : Nat → Option LoopSig) (S : Sig) (L : LoopSig) (m : Nat) (fn : Func) (c : Code) : VT := (ex P sg (fun n => L.ws.contains n) lt c L.nv L.head).vt (procLeaf P S L m fn.results.toList)
theorem proc_meets0 {Φ : FuncId → List D → List D} {lt : Nat → Option LoopSig} {pre : FuncId → List D → Prop} (hmx : P.follows .mixedOrders = true) (hM : ∀ f S, sg f = some S → MeetsAt P f S pre Φ) {f : FuncId} {fn : Func} {c : Code} {S : Sig} {L : LoopSig} {m : Nat}
  (hf : P.funcs[f]? = some fn) (hb : fn.body = some c) (hname : (fn.name == "runtime.NumGoroutine") = false) (hl : ∀ b ∈ Code.loops c, ∀ L, (firstRegion b).bind lt = some L → LoopMeets P Φ (pre L.key) L b) {vt : VT} (hvt : procVT P sg lt S L m fn c = vt)
  (hpl : L.head.plain = true) (hsl : L.head.slots.length = fn.ntmps) (hmn : m ≤ L.nv)
  {preF : List D → Prop} {fnD : List D → List D} (h : ∀ ρ, ρ.length = L.nv → preF ρ → vt.ok Φ ρ pre (fun out => out = fnD ρ)) : ProcMeets P f S L m preF fnD := by
 refine ⟨fun args w => ?_, fun K gh vs w hwok hlen hpre hvl hI => ?_⟩
 ·have h1 : fn.name ≠ "runtime.NumGoroutine" := by simpa using hname
  simp [callFunc, hf, h1, hb]
 have ht := h K.ρ hlen hpre
 rw [← hvt] at ht
 unfold procVT at ht
 refine calls_of_wp hf hb ?_
 rw [show ({ tmps := vs.toArray ++ Array.replicate (fn.ntmps - vs.toArray.size) undef, defers := [] } : Act) = frameOf L.head.slots.length vs by rw [hsl]; rfl]
 let K0 : Ctx := { K with Φ := Φ, gh0 := gh }
 have hI0 : Inv K0 L.head gh (frameOf L.head.slots.length vs) w := (hI.switch hpl Φ).rebase
 have hplr : (⟨[], L.head.res⟩ : St).plain = true := by
  simp only [St.plain, Bool.and_eq_true] at hpl ⊢
  exact ⟨rfl, hpl.2⟩
 have hleaf : ∀ k τ gh' a' w' δ, k ≠ .normal ∨ True → ((procLeaf P S L m fn.results.toList k τ).ok Φ (K.ρ ++ δ) pre fun out => out = fnD K.ρ) → Inv { K0 with ρ := K.ρ ++ δ } τ gh' a' w' →
   a'.defers = [] ∧ ∃ v, (results fn a'.tmps).run P w' = .ok v w' ∧ ∃ v0 vals outs gh2 F', fnD K.ρ = .i 0 :: (vals ++ outs) ∧ vals.length = L.wv.length ∧ (Ending.returned v) = .returned v0 ∧ ResRep w' F' S.rs v0 outs ∧
    Inv { K with ρ := setVars (K.ρ.take m) L.wv vals, gh0 := gh2, a0 := noAct } ⟨[], L.head.res⟩ gh2 noAct w' ∧ LoopLe L K.Pr gh gh2 := by
  intro k τ gh' a' w' δ _ hk hI'
  unfold procLeaf at hk
  split at hk
  ·exact hk.elim
  ·split at hk
   ·rename_i args xs hm hxs
    split at hk
    ·rename_i hc
     simp only [Bool.and_eq_true] at hc
     obtain ⟨⟨hsv, hsr⟩, hsc⟩ := hc
     obtain ⟨l, mm, hmo⟩ := match_ok hm
     obtain ⟨v, hv, hrep⟩ := results_run (P := P) hI' hxs
     let vals : List D := L.wv.map fun i => (args.getD i .nil).d Φ (K.ρ ++ δ)
     have hout : fnD K.ρ = .i 0 :: (vals ++ xs.map (X.d Φ (K.ρ ++ δ))) := by
      have h1 : (X.cons (.n 0) (consX (L.wv.map (fun i => args.getD i .nil) ++ xs))).ds Φ (K.ρ ++ δ) = fnD K.ρ := hk
      have h2 := ds_consX (K := { K0 with ρ := K.ρ ++ δ }) (L.wv.map (fun i => args.getD i .nil) ++ xs)
      rw [← h1]
      show X.d Φ (K.ρ ++ δ) (.n 0) :: (consX _).ds Φ (K.ρ ++ δ) = _
      have h3 : (consX (L.wv.map (fun i => args.getD i .nil) ++ xs)).ds Φ (K.ρ ++ δ) = _ := h2
      rw [h3, List.map_append, List.map_map]
      rfl
     have hlen' : args.length = m := hmo.len
     have htl : (K.ρ.take m).length = m := by rw [List.length_take, hlen]; omega
     have hρ2 : args.map (X.d Φ (K.ρ ++ δ)) = setVars (K.ρ.take m) L.wv vals := by
      apply List.ext_getElem
      ·rw [setVars_length, lm0, hlen', htl]
      ·intro i h1 h2
       have hi : i < (K.ρ.take m).length := by rw [setVars_length] at h2; exact h2
       have hi' : i < args.length := by simpa using h1
       have g2 : (setVars (K.ρ.take m) L.wv vals).getD i default = (setVars (K.ρ.take m) L.wv vals)[i] := by simp [List.getD, h2]
       rw [← g2, setVars_get _ L.wv vals hi, List.getElem_map]
       have hai : args.getD i .nil = args[i] := by simp [List.getD, hi']
       cases hp : posIn i L.wv with
       | some j =>
        have hj := posIn_get hp
        simp only [vals, List.getD, List.getElem?_map, hj, Option.map_some, Option.getD_some]
        simp [hi']
       | none =>
        have hn := posIn_none hp
        rcases sameVars_get hsv i hi' with h3 | h3
        ·rw [Nat.zero_add, hn] at h3; cases h3
        ·rw [Nat.zero_add, hai] at h3
         rw [h3]
         rw [htl] at hi
         have hil : i < K.ρ.length := by rw [hlen]; omega
         simp only [X.d, List.getD, List.getElem?_take, if_pos hi]
         rw [List.getElem?_append_left hil]
     have hIf : Inv { ({ K0 with ρ := K.ρ ++ δ } : Ctx) with wok := K.wok, a0 := noAct } ⟨[], τ.res⟩ gh' noAct w' := hI'.frame rfl rfl (by simp) (fun n _ => rfl)
     have hI3 : Inv { K0 with ρ := setVars (K.ρ.take m) L.wv vals, gh0 := gh'.cut L.head.res, a0 := noAct } ⟨[], L.head.res⟩ (gh'.cut L.head.res) noAct w' :=
      match_inv hIf hm rfl hρ2.symm rfl (fun _ _ => rfl) hI'.os hI'.tape hI'.output hI'.grow hI'.pr hI'.prlt fun r x b hl' hx hon hlive => (hI'.own r x b hx hon hlive).1
     have hI4 := hI3.switch hplr K.Φ
     refine ⟨hI'.defers, v, hv, v, vals, _, gh'.cut L.head.res, _, hout, by simp [vals], rfl, hrep, hI4, fun r b hb => ?_, hI'.le0.F, fun b hb => hI'.Fpr b hb, fun r g e cts i vv z hx hn => ?_⟩
     ·obtain ⟨x, hx, _⟩ := hI0.beta r b hb
      simp only [Gh.cut, listed_of hx, if_true]
      exact hI'.le0.β r b hb
     ·have hx' : L.head.res[r]? = some (some ⟨g, .row e cts (.var i) vv z⟩) := hx
      rcases sameRows_get hsr r g e cts i vv z hx' with h3 | ⟨g', e', c', x', z', h3⟩
      ·rw [hn] at h3; cases h3
      ·rw [Nat.zero_add] at h3
       obtain ⟨y, l', h4, h5, h6, h7, _⟩ := (matchRess_get hmo.ress).2 r _ hx'
       have h4' : τ.res[r]? = some (some y) := h4
       have hy : y = ⟨g', .row e' c' x' vv z'⟩ := by simp only [List.getD, h4'] at h3; simpa using h3
       subst hy
       have ok2 := hI'.res r _ h4' (isTt_sound h6)
       have ok1 := hI0.res r _ hx (isTt_sound h5)
       exact hI'.le0.rv r (by rw [ok1.1]; exact ok1.2.1) (by rw [ok2.1, ok1.1])
    ·exact hk.elim
   ·exact hk.elim
 refine ex_ok (K := K0) hmx hM c hl rfl hwok hlen.symm hI0 (OT.ok_vt ht) fun k τ gh' a' w' δ hk hI' => ?_
 have := hleaf k τ gh' a' w' δ (.inr trivial) hk hI'
 cases k with
 | normal => exact this
 | ret => exact this
 | exit id => exact hk.elim
theorem proc_meets {Φ : FuncId → List D → List D} {lt : Nat → Option LoopSig} {pre : FuncId → List D → Prop} (hmx : P.follows .mixedOrders = true) (hM : ∀ f S, sg f = some S → MeetsAt P f S pre Φ) {f : FuncId} {fn : Func} {c : Code} {S : Sig} {L : LoopSig} {m : Nat}
  (hf : P.funcs[f]? = some fn) (hb : fn.body = some c) (hname : (fn.name == "runtime.NumGoroutine") = false) (hl : ∀ b ∈ Code.loops c, ∀ L, (firstRegion b).bind lt = some L → LoopMeets P Φ (pre L.key) L b) {vt : VT} (hvt : (procVT P sg lt S L m fn c).slim L.nv [] = vt)
  (hpl : L.head.plain = true) (hsl : L.head.slots.length = fn.ntmps) (hmn : m ≤ L.nv)
  {preF : List D → Prop} {fnD : List D → List D} (h : ∀ ρ, ρ.length = L.nv → preF ρ → vt.ok Φ ρ pre (fun out => out = fnD ρ)) : ProcMeets P f S L m preF fnD :=
 proc_meets0 hmx hM hf hb hname hl rfl hpl hsl hmn fun ρ h1 h2 => VT.slim_ok h1.symm (fun k hk => by cases hk) (hvt ▸ h ρ h1 h2)
theorem ProcMeets.at1 {f : FuncId} {S : Sig} {L : LoopSig} {m : Nat} {pre : FuncId → List D → Prop} {Φ : FuncId → List D → List D} (h : ProcMeets P f S L m (pre L.key) (Φ L.key)) (hp : S.pc = [(L, m)] := by rfl) (hlt : f < 20000 := by decide) : MeetsAt P f S pre Φ :=
 .inr (.inr ⟨by rw [hp]; rfl, hlt, fun p hm => by rw [hp] at hm; simp only [List.mem_singleton] at hm; subst hm; exact h⟩)
theorem MeetsAt.name {f : FuncId} {S : Sig} {pre : FuncId → List D → Prop} {Φ : FuncId → List D → List D} (h : S.w.isSome = true := by rfl) : MeetsAt P f S pre Φ := .inl h
end
end Go.RV
