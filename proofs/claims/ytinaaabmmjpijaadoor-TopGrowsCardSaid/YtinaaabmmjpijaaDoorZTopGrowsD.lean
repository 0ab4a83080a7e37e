/-
 RV, part 10: calls; len, min, max; append, literals of slices, make, slices of slices.
-/
import Derived.Test.YtinaaabmmjpijaaDoorZTopGrowsC
namespace Go.RV
open Go.RowKit
section
variable {P : Program} {K : Ctx} {σ : St} {gh : Gh} {a : Act} {w : World} {o : Oper}
theorem Inv.grown (h : Inv K σ gh a w) {w' : World} {F' : Nat → Prop} (hb : Below w.heap.size w w') (hF : ∀ b, gh.F b → F' b) (hF' : ∀ b, F' b → (gh.F b ∨ w.heap.size ≤ b) ∧ b < w'.heap.size) :
  Inv K σ { gh with F := F' } a w' := by
 have := h.step (gh' := { gh with F := F' }) (w' := w') (res' := σ.res) (T := fun _ => False)
  ⟨⟨fun _ _ h => h, fun _ => Nat.le_refl _, fun _ _ _ => rfl, hF⟩, hb.os, hb.tape, hb.output, hb.size, fun r _ => ⟨rfl, rfl, rfl, rfl⟩, fun b hb' _ => hb.block b hb', fun b hb' => (hF' b hb').2,
   fun b hb' => (hF' b hb').1.imp id fun hge => ⟨fun hp => by have := h.prlt _ hp; have := h.grow; omega, fun r x _ hx hon hl => by have := (h.own r x b hx hon hl).2.2; omega⟩, fun r x hT => hT.elim, fun r x b hT => hT.elim, fun r x r' x' b hT => hT.elim, fun r b hT => hT.elim, fun r hT => hT.elim⟩
 exact this
theorem call_after (h : Inv K σ gh a w) {w' : World} {F' : Nat → Prop} (hB : Below w.heap.size w w') (hF1 : ∀ b, gh.F b → F' b) (hF2 : ∀ b, F' b → (gh.F b ∨ w.heap.size ≤ b) ∧ b < w'.heap.size) {G : X} (hG : (G.d K.Φ K.ρ).bool = true) {id : Nat}
    {rs : List (Bool × List CT)} (hid : ∀ i, i < oNs rs → σ.res[id + i]? = some none) {v : Value} {out : List D} {us : List Value} (hres : ResRepO w' F' rs v out us) (hnew : OwnNew w w' F' us) {mk : Nat → X} (hmk : ∀ i, i < out.length → (mk i).d K.Φ K.ρ = out.getD i default)
    {rv : SV} (hrv : resSVO mk id rs = some rv) : ∃ gh', Inv K ⟨σ.slots, setAll σ.res (ownWr mk G 0 id (rs.map (·.2)).flatten)⟩ gh' a w' ∧ SV.rel K.Φ K.ρ w' gh' rv v := by
  have hI := h.grown (F' := F') hB hF1 hF2
  by_cases hne : rs = []
  · subst hne
    have hu : us = [] := hres.2
    subst hu
    exact ⟨_, hI, resSVO_rel (gh := { gh with F := F' }) hrv hres hmk (by simp)⟩
  · obtain ⟨cs, hflat⟩ := resO_flat hres hne
    have hlen := hflat.len.2.2
    obtain ⟨gh', hI', hle, hF, hus, _⟩ := add_rows hG (mk := mk) (j := 0) (r := id) (us := us) hI hflat (fun i hi => by rw [Nat.zero_add]; exact hmk i hi) (fun i hi => hid i (by unfold oNs; omega))
      (fun u hu b hb => by
        obtain ⟨n1, n2, n3⟩ := hnew.1 u hu b hb
        refine ⟨fun hp => by have := h.prlt _ hp; have := h.grow; omega, n3, n2, fun q x hx hon hl => ?_⟩
        have hl' : x.k.live gh q = some b := by rw [← hl]; exact (live_other (gh := gh) (gh' := { gh with F := F' }) rfl rfl).symm
        have := (h.own q x b hx hon hl').2.2
        omega) hnew.2
    have hres' : ResRepO w' gh'.F rs v out us := by rw [hF]; exact hres
    exact ⟨gh', hI', resSVO_rel hrv hres' hmk hus⟩
theorem eff_call_core (h : Inv K σ gh a w) {f : FuncId} {svs : List SV} {vals : List Value} (hlen : svs.length = vals.length) (hargs : ∀ (j : Nat) s v, svs[j]? = some s → vals[j]? = some v → SV.rel K.Φ K.ρ w gh s v) {G : X} (hG : (G.d K.Φ K.ρ).bool = true) {eo : EO} {S : Sig} {id : Nat}
  (hid : ∀ i, i < oNs S.rs → σ.res[id + i]? = some none)
  {pre : FuncId → List D → Prop} (hmeets : ∀ (F : Nat → Prop) (ds : List D), (∀ b, F b → b < w.heap.size) → TabIn w F → ArgsRep w F S.ps vals ds → pre f ds → ∃ f' args', (execOp a.eval o).run P w = .ok (.enter f' args') w ∧ Calls P f' args' w (MPost F w S.rs (K.Φ f ds)))
  (he : (effCall0 G id S f svs).run σ.res = some eo) (hn : ∀ n ∈ eo.nd, n.holds pre K.Φ K.ρ) : EffOk K σ P o a w eo := by
 unfold effCall0 at he
 ·obtain ⟨es, wr, he2, hok1, hok2, hok3⟩ := argsX_ok h hG he hlen hargs
  split at he2
  ·rename_i rv hrv
   have he3 := RM.run_done he2
   subst he3
   have hpre : pre f ((consX es).ds K.Φ K.ρ) := hn (.pre f (consX es)) (by simp)
   rw [ds_consX] at hpre
   have hmk : ∀ i, i < (K.Φ f (es.map (X.d K.Φ K.ρ))).length → ((X.app f (consX es) i).d K.Φ K.ρ) = (K.Φ f (es.map (X.d K.Φ K.ρ))).getD i default := by
    intro i _
    simp only [X.d, ds_consX]
   have hid' : ∀ i, i < oNs S.rs → (setAll σ.res wr)[id + i]? = some none := fun i hi => by
    rw [setAll_off fun p hp e => ?_]
    ·exact hid i hi
    ·obtain ⟨x, hx, _⟩ := hok1 p hp
     unfold St.has at hx
     rw [e, hid i hi] at hx
     cases hx
   obtain ⟨gh1, hI1, hle1, b1, r1, v1, f1, g1⟩ := freeze_all h hok1
   cases hsc : scalars S.rs with
   | true =>
    obtain ⟨f', args', hrun, hc1⟩ := hmeets (fun b => b < w.heap.size) _ (fun _ hb => hb) (h.tab.mono (fun b hb => h.Flt b hb) fun _ _ => rfl) hok2 hpre
    refine Does.enter hrun (hc1.mono fun e w' ⟨v, F', us, hev, hres, hnew, hF1, hF2, hB⟩ => ⟨v, hev, ?_⟩)
    obtain ⟨gh', hI', hrel⟩ := call_after hI1 (F' := gh1.F) hB (fun _ hb => hb) (fun b hb => ⟨.inl hb, Nat.lt_of_lt_of_le (hI1.Flt b hb) hB.size⟩) hG hid' (hres.scalar hsc)
     ⟨fun u hu b hb => by
      obtain ⟨n1, n2, n3⟩ := hnew.1 u hu b hb
      exact ⟨n1, n2, fun hf => by have := hI1.Flt b hf; omega⟩, hnew.2⟩ hmk hrv
    exact ⟨gh', by rw [setAll_app]; exact hI', hrel⟩
   | false =>
    have hA := hok3 (by simp [hsc]) gh1.F hle1.F f1
    obtain ⟨f', args', hrun, hc1⟩ := hmeets gh1.F _ hI1.Flt hI1.tab hA hpre
    refine Does.enter hrun (hc1.mono fun e w' ⟨v, F', us, hev, hres, hnew, hF1, hF2, hB⟩ => ⟨v, hev, ?_⟩)
    obtain ⟨gh', hI', hrel⟩ := call_after hI1 hB hF1 hF2 hG hid' hres hnew hmk hrv
    exact ⟨gh', by rw [setAll_app]; exact hI', hrel⟩
  ·exact (RM.run_fail he2).elim
theorem args_rel (h : Inv K σ gh a w) {G : X} (hG : (G.d K.Φ K.ρ).bool = true) (xs : List Operand) : ∀ (j : Nat) s v, (xs.map fun x => strip G (σ.opd x))[j]? = some s → (xs.map a.eval)[j]? = some v → SV.rel K.Φ K.ρ w gh s v := by
 intro j s v hs hv
 simp only [List.getElem?_map, Option.map_eq_some_iff] at hs hv
 obtain ⟨q, hq, rfl⟩ := hs
 obtain ⟨q', hq', rfl⟩ := hv
 obtain rfl := Option.some.inj (hq.symm.trans hq')
 exact strip_rel hG (h.opd q)
theorem callV_run {c : Call} {x : Operand} (ho : o.op = .call c) (hc : c.callee = .value x) {f : FuncId} {vs : Array Value} (hv : a.eval x = .func (.func f) #[] vs) {args' : Array Value} (hargs' : args' = (c.args.toList.map a.eval).toArray ++ vs)
  (henter : (callFunc f args').run P w = .ok (.enter f args') w) : (execOp a.eval o).run P w = .ok (.enter f args') w := by
 have : (c.args.map a.eval) = (c.args.toList.map a.eval).toArray := by apply Array.ext'; simp
 simp only [execOp, ho, resolve, hc, hv, Deferred.ofValue, Sem.run_bind, Sem.run_pure, Result.andThen_ok, invoke, Array.empty_append]
 rw [this, ← hargs']
 exact henter
theorem capsOf_get : ∀ {vs : List SV} {caps : List (Nat × Nat)}, capsOf vs = some caps → caps.length = vs.length ∧ ∀ (j : Nat) c, caps[j]? = some c → vs[j]? = some (.c (.ptr c.1 c.2))
 | [], caps, h => by simp only [capsOf, si0] at h; subst h; simp
 | v :: vs, caps, h => by
  unfold capsOf at h
  split at h
  ·rename_i h1; cases h1
  ·rename_i r off vs' h1
   simp only [List.cons.injEq] at h1
   obtain ⟨rfl, rfl⟩ := h1
   simp only [Option.map_eq_some_iff] at h
   obtain ⟨cs, h2, rfl⟩ := h
   obtain ⟨h3, h4⟩ := capsOf_get h2
   refine ⟨by simp [h3], fun j c hc => ?_⟩
   cases j with
   | zero => simp only [List.getElem?_cons_zero, si0] at hc; subst hc; rfl
   | succ j => simpa using h4 j c (by simpa using hc)
  ·cases h
theorem eff_makeFunc (h : Inv K σ gh a w) {fn : Fn} {first captured : Array Operand} (ho : o.op = .makeFunc fn first captured) {G : X} (hG : (G.d K.Φ K.ρ).bool = true) {eo : EO}
  (he : (effMakeFunc fn (first.toList.map fun x => strip G (σ.opd x)) (captured.toList.map fun x => strip G (σ.opd x))).run σ.res = some eo) : EffOk K σ P o a w eo := by
 unfold effMakeFunc at he
 split at he
 ·rename_i f caps h1 hcp
  have := RM.run_done he
  subst this
  have hf : first = #[] := by
   have : first.toList = [] := by simpa using h1
   apply Array.ext'
   simpa using this
  subst hf
  obtain ⟨l1, l2⟩ := capsOf_get hcp
  refine EffOk.pure h (v := .func (.func f) #[] (captured.map a.eval)) (by simp only [execOp, ho, Instr.makeFunc, Sem.run_bind, Sem.run_pure, Result.andThen_ok, Array.map_empty]) ?_
  refine ⟨captured.map a.eval, rfl, by simp [l1], fun j c hc => ?_⟩
  have h3 := l2 j c hc
  simp only [List.getElem?_map, Option.map_eq_some_iff] at h3
  obtain ⟨q, hq, h4⟩ := h3
  have hrel := strip_rel hG (h.opd q)
  rw [h4] at hrel
  obtain ⟨b, hb1, hb2⟩ := hrel
  refine ⟨b, hb1, ?_⟩
  rw [← hb2]
  rw [Array.getElem?_toList] at hq
  simp [Array.getD_eq_getD_getElem?, hq]
 ·exact (RM.run_fail he).elim
theorem row_step (h : Inv K σ gh a w) {r : Nat} (hlt : r < σ.res.length) {ob : Option Nat} (hob : ∀ b, ob = some b → ∃ x, σ.has r x ∧ x.on K ∧ x.k.live gh r = some b) {ver : Nat} (hver : gh.vr r < ver) {g : X} (hg : (g.d K.Φ K.ρ).bool = true)
  {w' : World} (hgr : w.grownBy w' ob) {e : TypeId} {cts : List CT} {content : X} {xs : List (List D)} (hd : content.d K.Φ K.ρ = .l xs) {v : Value} {vals : List Value} (hown : OwnR w' e cts.length v xs.length vals)
  (hrep : RowRep w gh.F cts xs vals) (hfresh : ∀ b, ownB v = some b → ob = some b ∨ (b = w.heap.size ∧ b < w'.heap.size)) :
  ∃ gh', Inv K ⟨σ.slots, σ.res.set r (some ⟨g, .row e cts content ver false⟩)⟩ gh' a w' ∧ gh.le gh' ∧ gh'.rv r = v ∧ gh'.vr r = ver ∧ gh'.F = gh.F := by
 let gh' : Gh := { gh with rv := fun q => if q = r then v else gh.rv q, vr := fun q => if q = r then ver else gh.vr q }
 have hle : gh.le gh' := ⟨fun _ _ h => h, fun q => by show gh.vr q ≤ if q = r then ver else gh.vr q; split <;> (try subst_vars) <;> omega,
  fun q h1 h2 => by
   show (if q = r then v else gh.rv q) = gh.rv q
   by_cases e : q = r
   ·subst e; have : (if q = q then ver else gh.vr q) = gh.vr q := h2; rw [if_pos rfl] at this; omega
   ·rw [if_neg e], fun _ h => h⟩
 have hrr : gh'.rv r = v := by simp [gh']
 have hvr : gh'.vr r = ver := by simp [gh']
 have hFb : ∀ b, gh.F b → w'.heap[b]? = w.heap[b]? := fun b hb => hgr.block b (h.Flt b hb) fun eb => by
  obtain ⟨x, hx, hon, hl⟩ := hob b eb.symm
  exact (h.own r x b hx hon hl).2.1 hb
 refine ⟨gh', ?_, hle, hrr, hvr, rfl⟩
 refine h.step (T := fun q => q = r) ⟨hle, hgr.os, hgr.tape, hgr.output, hgr.size, fun q hq => ⟨by simp [Ne.symm hq], rfl, by simp [gh', hq], by simp [gh', hq]⟩,
  fun b hb hT => hgr.block b hb fun eb => by obtain ⟨x, hx, hon, hl⟩ := hob b eb.symm; exact hT r x rfl hx hon hl,
  fun b hb => Nat.lt_of_lt_of_le (h.Flt b hb) hgr.size, fun b hb => .inl hb, fun q y hT hy hony => ?_, fun q y b hT hy hony hl => ?_, fun q y q' y' c hT hT' _ _ _ _ _ _ => hT.trans hT'.symm, fun q c hT hb => ?_, fun q hT hr => ?_⟩
 ·subst hT
  rw [getElem?_set_has hlt] at hy
  simp only [si0] at hy
  subst hy
  refine ⟨hvr, by have := Nat.zero_le (gh.vr q); omega, fun q' n c hq hc0 => ?_, xs, vals, hd, by rw [hrr]; exact hown, hrep.mono hle.F hFb⟩
  rw [hrr] at hq
  rcases hown with ⟨_, _, _, h1⟩ | ⟨g', cap, cur, h1, _⟩
  ·rw [h1] at hq
   simp only [Value.slice.injEq] at hq
   omega
  ·rw [h1] at hq
   simp only [Value.slice.injEq, si0] at hq
   exact ⟨g', hq.1.symm⟩
 ·subst hT
  rw [getElem?_set_has hlt] at hy
  simp only [si0] at hy
  subst hy
  simp only [RK.live, hrr] at hl
  rcases hfresh b hl with hb | ⟨hb, hb'⟩
  ·obtain ⟨x, hx, hon, hlx⟩ := hob b hb
   obtain ⟨o1, o2, o3⟩ := h.own q x b hx hon hlx
   exact ⟨o1, o2, Nat.lt_of_lt_of_le o3 hgr.size, fun r2 x2 hT2 hx2 hon2 hl2 => hT2 (h.inj r2 x2 q x b hx2 hon2 hx hon hl2 hlx)⟩
  ·obtain ⟨n1, n2⟩ := newBlock_not h hb
   exact ⟨n1, n2, hb', fun r2 x2 _ hx2 hon2 hl2 => by have := (h.own r2 x2 b hx2 hon2 hl2).2.2; omega⟩
 ·subst hT
  exact ⟨_, getElem?_set_has hlt, hg⟩
 ·subst hT
  exact ⟨_, getElem?_set_has hlt, hg⟩
def SrcOk (w : World) (F : Nat → Prop) (cts : List CT) (v : Value) (d : D) : Prop :=
 (v = .slice none 0 0 ∧ d = .l []) ∨ ∃ q n c news xs, v = .slice (some q) n c ∧ d = .l xs ∧ xs.length = n ∧ news.length = n * cts.length ∧ (∀ j u, news[j]? = some u → w.cell? (q.add j) = some u) ∧ (∀ u ∈ news, u.oneCell' = true) ∧ RowRep w F cts xs news
theorem rowRep_oneCell {F : Nat → Prop} {cts : List CT} {xs : List (List D)} {vals : List Value} (h : RowRep w F cts xs vals) (hl : vals.length = xs.length * cts.length) (hc : 0 < cts.length) : ∀ u ∈ vals, u.oneCell' = true := by
 intro u hu
 obtain ⟨k, hk, rfl⟩ := List.getElem_of_mem hu
 have h1 : k / cts.length < xs.length := by rw [Nat.div_lt_iff_lt_mul hc, ← hl]; exact hk
 have h2 : k % cts.length < cts.length := Nat.mod_lt _ hc
 have := (h _ h1).2 _ _ (ct_at h2)
 rw [Nat.mul_comm, Nat.div_add_mod] at this
 have e : vals.getD k undef = vals[k] := by simp [List.getD, hk]
 rw [e] at this
 exact this.oneCell
theorem rep_src {F : Nat → Prop} {e : TypeId} {cts : List CT} {v : Value} {d : D} (h : Rep w F (.sl e cts) v d) (hc : 0 < cts.length) : SrcOk w F cts v d := by
 cases h with
 | nil =>
  rename_i q
  cases q with
  | none => exact .inl ⟨rfl, rfl⟩
  | some q => exact .inr ⟨q, 0, 0, [], [], rfl, rfl, rfl, by simp, by simp, by simp, fun i hi => by simp at hi⟩
 | sl hF hg hl hm hcap hn hx hr =>
  rename_i g oo len cap cur t fz xs
  have hle := Nat.mul_le_mul_right cts.length hl
  have hrow : RowRep w F cts xs ((cur.toList.drop oo).take (len * cts.length)) := by
   intro i hi
   refine ⟨hx i (by omega), fun j ct hj => ?_⟩
   have hjl : j < cts.length := (List.getElem?_eq_some_iff.1 hj).1
   have hb1 := mul_lt_bound (i := i) (len := len) (j := j + 1) (m := cts.length) (by omega) (by omega)
   rw [getD_slice _ _ _ _ (by omega), ← Nat.add_assoc]
   exact hr i j ct (by omega) hj
  have hnl : ((cur.toList.drop oo).take (len * cts.length)).length = xs.length * cts.length := by rw [hn]; simp; omega
  refine .inr ⟨_, _, _, _, xs, rfl, rfl, hn, by rw [hnl, hn], fun j u hj => ?_, rowRep_oneCell hrow hnl hc, hrow⟩
  rw [addr_add, cell_at hg]
  rw [List.getElem?_take] at hj
  split at hj
  ·simpa using hj
  ·cases hj
theorem own_src {e : TypeId} {cts : List CT} {F : Nat → Prop} {v : Value} {xs : List (List D)} {vals : List Value} (h : OwnR w e cts.length v xs.length vals) (hrep : RowRep w F cts xs vals) (hc : 0 < cts.length) : SrcOk w F cts v (.l xs) := by
 have h1 := rowRep_oneCell hrep h.len hc
 rcases h.owns with ⟨rfl, h0, q, rfl⟩ | ⟨ho, _⟩
 ·cases q with
  | none => exact .inl ⟨rfl, by rw [List.length_eq_zero_iff.1 h0]⟩
  | some q => exact .inr ⟨q, 0, 0, [], xs, rfl, rfl, h0, by simp, by simp, by simp, by rw [List.length_eq_zero_iff.1 h0]; exact fun i hi => by simp at hi⟩
 ·rcases ho.2 with ⟨rfl, h0⟩ | ⟨g, cap, cur, rfl, _, hg, hl, hm, hs, ht⟩
  ·exact .inl ⟨rfl, by rw [List.length_eq_zero_iff.1 h0]⟩
  ·refine .inr ⟨_, _, _, vals, xs, rfl, rfl, rfl, h.len, fun j u hj => ?_, h1, hrep⟩
   exact ho.cells (g := g) rfl j u hj
theorem srcArg_ok (h : Inv K σ gh a w) {G : X} (hG : (G.d K.Φ K.ρ).bool = true) {e : TypeId} {cts : List CT} (hc : 0 < cts.length) {s : SC} {k : X → RM} {eo : EO} {v : Value} (he : (srcArg G e cts s k).run σ.res = some eo) (hs : SC.rel K.Φ K.ρ w gh s v) :
  ∃ cx, (k cx).run σ.res = some eo ∧ SrcOk w gh.F cts v (cx.d K.Φ K.ρ) := by
 unfold srcArg at he
 split at he
 ·rename_i r ver
  obtain ⟨_, h1, h2, h3⟩ := hs
  obtain ⟨R, hR, he2⟩ := RM.run_res he
  split at he2
  ·rename_i ety cts' content ver' frz hk
   split at he2
   ·rename_i hcc
    simp only [Bool.and_eq_true, beq_iff_eq] at hcc
    obtain ⟨⟨⟨hc1, rfl⟩, hc3⟩, rfl⟩ := hcc
    have := CT.beqs_eq _ _ hc3
    subst this
    have hon : R.on K := entails_sound _ _ hc1 hG
    have hok := h.res r R hR hon
    rw [hk] at hok
    have hv := h3 hok.1
    obtain ⟨_, _, _, hok⟩ := hok
    subst hv
    refine ⟨content, he2, ?_⟩
    cases frz with
    | true =>
     simp only [if_true] at hok
     exact rep_src hok hc
    | false =>
     simp only [fe0, if_false] at hok
     obtain ⟨xs, vals, hd, hown, hrep⟩ := hok
     rw [hd]
     exact own_src hown hrep hc
   ·exact (RM.run_fail he2).elim
  ·exact (RM.run_fail he2).elim
 ·obtain ⟨rfl, _⟩ := hs
  exact ⟨.lnil, he, .inl ⟨rfl, rfl⟩⟩
 ·rename_i e' cts' s'
  split at he
  ·rename_i hcc
   have := CT.beqs_eq _ _ hcc
   subst this
   exact ⟨s', he, rep_src (show Rep w gh.F _ v _ from hs) hc⟩
  ·exact (RM.run_fail he).elim
 ·exact (RM.run_fail he).elim
theorem rowRep_append {F : Nat → Prop} {cts : List CT} {xs ys : List (List D)} {vs us : List Value} (hx : RowRep w F cts xs vs) (hl : vs.length = xs.length * cts.length) (hy : RowRep w F cts ys us) : RowRep w F cts (xs ++ ys) (vs ++ us) := by
 intro i hi
 rw [List.length_append] at hi
 by_cases h1 : i < xs.length
 ·have e1 : (xs ++ ys).getD i [] = xs.getD i [] := by simp only [List.getD]; rw [List.getElem?_append_left h1]
  rw [e1]
  refine ⟨(hx i h1).1, fun j ct hj => ?_⟩
  have hjl : j < cts.length := (List.getElem?_eq_some_iff.1 hj).1
  have hb1 := mul_lt_bound (j := j + 1) (m := cts.length) h1 (by omega)
  have e2 : (vs ++ us).getD (i * cts.length + j) undef = vs.getD (i * cts.length + j) undef := by simp only [List.getD]; rw [List.getElem?_append_left (by omega)]
  rw [e2]
  exact (hx i h1).2 j ct hj
 ·have e1 : (xs ++ ys).getD i [] = ys.getD (i - xs.length) [] := by simp only [List.getD]; rw [List.getElem?_append_right (by omega)]
  rw [e1]
  have hi' : i - xs.length < ys.length := by omega
  refine ⟨(hy _ hi').1, fun j ct hj => ?_⟩
  have hge : xs.length * cts.length ≤ i * cts.length := Nat.mul_le_mul_right _ (by omega)
  have e2 : (vs ++ us).getD (i * cts.length + j) undef = us.getD ((i - xs.length) * cts.length + j) undef := by
   simp only [List.getD]
   rw [List.getElem?_append_right (by omega)]
   congr 2
   rw [hl, Nat.sub_mul]
   omega
  rw [e2]
  exact (hy _ hi').2 j ct hj
theorem append_run {t ty e : TypeId} {i : TypeInfo} {z : Value} {size : Nat} (ht : P.underlying t = some (.slice e)) (hi : P.info? e = some i) (hz : i.zero = some z) (hsize : i.size = size) (hzs : z.cells.size = size) (hsz : 0 < size)
  {v : Value} {n : Nat} {xs : List Value} (hown : w.ownsRow 0 e size v n xs) {q : Addr} {m c : Nat} {news : List Value} (hl : news.length = m * size) (hnews : ∀ j u, news[j]? = some u → w.cell? (q.add j) = some u) (h1 : ∀ u ∈ news, u.oneCell' = true)
  (h63 : n + m ≤ maxLen) (hbytes : (n + m) * i.bytes ≤ 140737488355328) :
  ∃ v' w', (Builtin.append_ #[t, t] ty #[v, .slice (some q) m c]).run P w = .ok v' w' ∧ w'.ownsRow 0 e size v' (n + m) (xs ++ news) ∧ w.grownBy w' v.ownBlock ∧
   (∀ b, v'.ownBlock = some b → v.ownBlock = some b ∨ (b = w.heap.size ∧ b < w'.heap.size)) := by
 subst hsize
 have hsmall : n + m ≤ 9223372036854775807 := by simp only [maxLen] at h63; omega
 rcases hown.2 with ⟨rfl, rfl⟩ | ⟨g, cap, cur, rfl, hbg, hg, hnc, hcm, hcs, htake⟩
 ·by_cases hm : m = 0
  ·obtain ⟨v', w', hr, h2, h3, h4⟩ := run_append_own (P := P) w 0 t ty e i z i.size i.bytes ht hi hz rfl rfl hzs hsz _ 0 xs hown q m c news hl hnews h1 h63 hbytes (Nat.zero_le _)
   refine ⟨v', w', hr, h2, h3, fun b hb => ?_⟩
   have := h4.2 ⟨rfl, hm⟩
   rw [this] at hb
   cases hb
  ·have hr := run_append_nil (P := P) w t ty e i z ht hi hz q m c news hl hnews (by omega) (by omega) (by simp only [Nat.zero_add] at hbytes; omega)
   obtain ⟨v', w', hr', h2, h3, h4⟩ := run_append_own (P := P) w 0 t ty e i z i.size i.bytes ht hi hz rfl rfl hzs hsz _ 0 xs hown q m c news hl hnews h1 h63 hbytes (Nat.zero_le _)
   rw [hr] at hr'
   simp only [Result.ok.injEq] at hr'
   obtain ⟨rfl, rfl⟩ := hr'
   refine ⟨_, _, hr, h2, h3, fun b hb => ?_⟩
   simp only [Value.ownBlock, si0] at hb
   subst hb
   exact .inr ⟨rfl, by simp⟩
 ·by_cases hroom : n + m ≤ cap
  ·obtain ⟨w', hr, h2, h3⟩ := run_append_fits (P := P) w 0 t ty e i i.size ht hi rfl g n cap xs hown q m c news hl hnews h1 hroom
   exact ⟨_, w', hr, h2, h3, fun b hb => .inl hb⟩
  ·have holds : ∀ j u, xs[j]? = some u → w.cell? ((⟨g, 0, none⟩ : Addr).add j) = some u := hown.cells (g := g) rfl
   have hr := run_append_grow (P := P) w t ty e i z ht hi hz ⟨g, 0, none⟩ n cap xs hown.1 holds q m c news hl hnews (by omega) (by omega) (growslice_fits (by omega) hbytes)
   obtain ⟨v', w', hr', h2, h3, h4⟩ := run_append_own (P := P) w 0 t ty e i z i.size i.bytes ht hi hz rfl rfl hzs hsz _ n xs hown q m c news hl hnews h1 h63 hbytes (Nat.zero_le _)
   rw [hr] at hr'
   simp only [Result.ok.injEq] at hr'
   obtain ⟨rfl, rfl⟩ := hr'
   refine ⟨_, _, hr, h2, h3, fun b hb => ?_⟩
   simp only [Value.ownBlock, si0] at hb
   subst hb
   exact .inr ⟨rfl, by simp⟩
theorem append_runO {t ty e : TypeId} {i : TypeInfo} {z : Value} {size : Nat} (ht : P.underlying t = some (.slice e)) (hi : P.info? e = some i) (hz : i.zero = some z) (hsize : i.size = size) (hzs : z.cells.size = size) (hsz : 0 < size)
  {v : Value} {n : Nat} {xs : List Value} (hown : OwnR w e size v n xs) {q : Addr} {m c : Nat} {news : List Value} (hl : news.length = m * size) (hnews : ∀ j u, news[j]? = some u → w.cell? (q.add j) = some u) (h1 : ∀ u ∈ news, u.oneCell' = true)
  (h63 : n + m ≤ maxLen) (hbytes : (n + m) * i.bytes ≤ 140737488355328) :
  ∃ v' w', (Builtin.append_ #[t, t] ty #[v, .slice (some q) m c]).run P w = .ok v' w' ∧ OwnR w' e size v' (n + m) (xs ++ news) ∧ w.grownBy w' (ownB v) ∧
   (∀ b, ownB v' = some b → ownB v = some b ∨ (b = w.heap.size ∧ b < w'.heap.size)) := by
 rcases hown.owns with ⟨rfl, rfl, q0, rfl⟩ | ⟨ho, g, cap, rfl⟩
 ·obtain ⟨v', w', hr, h2, h3, h4⟩ := append_run (P := P) (w := w) (ty := ty) ht hi hz hsize hzs hsz (v := .slice none 0 0) (n := 0) (xs := []) ⟨by simp, .inl ⟨rfl, rfl⟩⟩ hl hnews h1 h63 hbytes
  have h4' : ∀ b, ownB v' = some b → ownB (.slice q0 0 0) = some b ∨ (b = w.heap.size ∧ b < w'.heap.size) := fun b hb => (h4 b (ownB_own hb)).imp (fun e => by cases e) (fun e => e)
  have hb0 : ownB (.slice q0 0 0) = none := by cases q0 <;> rfl
  rw [hb0] at h4' ⊢
  cases q0 with
  | none => exact ⟨v', w', hr, .of h2, h3, h4'⟩
  | some a0 =>
   subst hsize
   have hsmall : 0 + m ≤ 9223372036854775807 := by simp only [maxLen] at h63; omega
   by_cases hm : m = 0
   ·subst hm
    have hn : news = [] := List.length_eq_zero_iff.1 (by simpa using hl)
    subst hn
    refine ⟨.slice (some a0) 0 0, w, ?_, .inl ⟨rfl, rfl, _, rfl⟩, ⟨rfl, rfl, rfl, Nat.le_refl _, fun _ _ _ => rfl⟩, fun b hb => by cases hb⟩
    simp [Builtin.append_, run_underlying ht, sizeOf, typeInfo, hi, Builtin.lenOf, Builtin.firstCells, storeCells, loadCells, loadCellsFrom]
   ·have hr1 := run_append_nil (P := P) w t ty e i z ht hi hz q m c news hl hnews (by omega) (by omega) (by simp only [Nat.zero_add] at hbytes; omega)
    have hr2 := run_append_grow (P := P) w t ty e i z ht hi hz a0 0 0 [] (by simp) (by simp) q m c news hl hnews (by omega) (by omega) (growslice_fits (by omega) hbytes)
    rw [hr1] at hr
    simp only [Result.ok.injEq] at hr
    obtain ⟨rfl, rfl⟩ := hr
    refine ⟨_, _, ?_, .of h2, h3, h4'⟩
    rw [hr2]
    simp
 ·obtain ⟨v', w', hr, h2, h3, h4⟩ := append_run (P := P) (ty := ty) ht hi hz hsize hzs hsz ho hl hnews h1 h63 hbytes
  exact ⟨v', w', hr, .of h2, h3, fun b hb => h4 b (ownB_own hb)⟩
end
end Go.RV
