/-
 RV, part 11: len, min, max; append, literals of slices, make, slices of slices.; RV, part 14: a state that matches the state at a loop's head; the state behind a loop.; RV, part 15: the state behind a loop.; RV, part 11b2: calls of functions that change a row of their caller's own.
-/
import Derived.Laws.IdiomCopy
import Derived.Laws.CopyRow
import Derived.Test.YtinaaabmmjpijaaDoorZTopGrowsD
namespace Go.RV
open Go.RowKit
section
variable {P : Program} {K : Ctx} {σ : St} {gh : Gh} {a : Act} {w : World} {o : Oper}
theorem run_builtin {c : Call} (ho : o.op = .call c) {b : Builtin} (hc : c.callee = .builtin b) {v : Value} {w' : World}
  (h : (builtin b c.argTypes o.type (c.args.map fun | .const _ => true | _ => false) (c.args.map a.eval)).run P w = .ok (.value v) w') : (execOp a.eval o).run P w = .ok (.value v) w' := by
 simp only [execOp, ho, resolve, hc, Sem.run_bind, Sem.run_pure, Result.andThen_ok, invoke]
 exact h
theorem eff_convertB (h : Inv K σ gh a w) {s d : TypeId} {x : Operand} (ho : o.op = .convert s d x) {G : X} (hG : (G.d K.Φ K.ρ).bool = true) {eo : EO}
  (he : (effConvertB P s d (strip G (σ.opd x))).run σ.res = some eo) : EffOk K σ P o a w eo := by
 have hx := strip_rel hG (h.opd x)
 unfold effConvertB at he
 split at he
 ·rename_i e ex hus hud hsx
  rw [hsx] at hx
  split at he
  ·rename_i hue
   have he := RM.run_done he; subst he
   obtain ⟨hv, hd, hs⟩ := rep_str hx
   generalize hstr : (X.d K.Φ K.ρ ex).str = str at *
   have hcl := grownCap_le_maxLen w str.size 0 e hs
   have hcg := grownCap_ge w str.size 0 e
   let cells := bytesRow str (grownCap w str.size 0 e)
   have hcs : cells.size = grownCap w str.size 0 e := by
    simp only [cells, bytesRow, Array.size_append, Array.size_map, Array.size_replicate]
    have : str.data.size = str.size := rfl
    omega
   let w' : World := w.drew.alloc (.cells cells e (cells.size, cells.size + 1))
   have hb : Below w.heap.size w w' := (Below.refl w.heap.size w).drew.alloc (Nat.le_refl _) _
   have hnew : w'.heap[w.heap.size]? = some (.cells cells e (cells.size, cells.size + 1)) := by
    show (w.heap.push _)[w.heap.size]? = _
    simp
   have hsz : w'.heap.size = w.heap.size + 1 := by
    show (w.heap.push _).size = _
    simp
   have hI := h.grown (w' := w') (F' := fun b => gh.F b ∨ b = w.heap.size) hb (fun b hb => .inl hb) (fun b hb => by
    rcases hb with hb | rfl
    ·exact ⟨.inl hb, by have := h.Flt b hb; omega⟩
    ·exact ⟨.inr (Nat.le_refl _), by omega⟩)
   refine Does.val (v := .slice (some ⟨w.heap.size, 0, none⟩) str.size (grownCap w str.size 0 e)) (w' := w') ?_ ⟨_, by simpa [setAll] using hI, ?_⟩
   ·simp only [execOp, ho, hv, Sem.run_bind, run_bytes_of_string (P := P) w s d e str hus hud hue, Result.andThen_ok, Sem.run_pure]
    rfl
   ·show Rep w' (fun b => gh.F b ∨ b = w.heap.size) (.sl e [.int .u8]) _ (D.l ((ex.d K.Φ K.ρ).str.data.toList.map fun b => [.i (b.toNat : Int)]))
    rw [hstr]
    have hl : str.data.toList.length = str.size := by simp
    refine .sl (.inr rfl) hnew hcg hcl (by simp [hcs]) (by simp [hl]) (fun i hi => ?_) fun i j ct hi hj => ?_
    ·have hid : i < str.data.size := hi
     simp only [List.getD, List.getElem?_map, Array.getElem?_toList, Array.getElem?_eq_getElem hid, Option.map_some, Option.getD_some]
     rfl
    ·have hi' : i < str.data.toList.length := by omega
     have hj0 : j = 0 := by
      cases j with
      | zero => rfl
      | succ j => simp at hj
     subst hj0
     simp only [List.getElem?_cons_zero, si0] at hj
     subst hj
     have e1 : cells.getD (0 + i * [CT.int .u8].length + 0) undef = .int .u8 (str.data.toList[i].toNat : Int) := by
      simp only [cells, bytesRow, List.length_cons, List.length_nil, Nat.zero_add, Nat.mul_one, Nat.add_zero, Array.getD_eq_getD_getElem?]
      rw [Array.getElem?_append_left (by simpa using hi')]
      have hi2 : i < str.data.size := hi
      rw [Array.getElem?_map, Array.getElem?_eq_getElem hi2]
      rfl
     have e2 : (((str.data.toList.map fun b => [D.i (b.toNat : Int)]).getD i []).getD 0 default) = .i (str.data.toList[i].toNat : Int) := by
      have hid : i < str.data.size := hi
      simp only [List.getD, List.getElem?_map, Array.getElem?_toList, Array.getElem?_eq_getElem hid, Option.map_some, Option.getD_some]
      rfl
     rw [e1, e2]
     refine .int ?_
     have := str.data.toList[i].toNat_lt
     have e1 : IntKind.u8.min = 0 := rfl
     have e2 : IntKind.u8.max = 255 := rfl
     rw [e1, e2]
     omega
  ·exact (RM.run_fail he).elim
 ·exact eff_convert h ho hG he
theorem selfData_rep : ∀ {cs : List SC} {cts : List CT} {es : List X}, selfData cs = some (cts, es) → ∀ {us : List Value}, relS K.Φ K.ρ w gh cs us →
  es.length = cts.length ∧ us.length = cts.length ∧ ∀ j ct, cts[j]? = some ct → Rep w gh.F ct (us.getD j undef) (((consX es).ds K.Φ K.ρ).getD j default)
 | [], cts, es, h, us, hr => by
  simp only [selfData, si0, Prod.mk.injEq] at h
  obtain ⟨rfl, rfl⟩ := h
  cases us with
  | nil => exact ⟨rfl, rfl, by simp⟩
  | cons => exact hr.elim
 | c :: cs, cts, es, h, us, hr => by
  unfold selfData at h
  split at h
  ·rename_i h1; cases h1
  ·rename_i ct e cs' h1
   simp only [List.cons.injEq] at h1
   obtain ⟨rfl, rfl⟩ := h1
   split at h
   ·rename_i cts' es' h2
    simp only [si0, Prod.mk.injEq] at h
    obtain ⟨rfl, rfl⟩ := h
    cases us with
    | nil => exact hr.elim
    | cons u us =>
     obtain ⟨l1, l2, l3⟩ := selfData_rep h2 hr.2
     refine ⟨by simp [l1], by simp [l2], fun j ct' hj => ?_⟩
     cases j with
     | zero =>
      simp only [List.getElem?_cons_zero, si0] at hj
      subst hj
      exact hr.1
     | succ j => simpa [consX, X.ds] using l3 j ct' (by simpa using hj)
   ·cases h
  ·cases h
theorem eff_makeIface (h : Inv K σ gh a w) {t : TypeId} {x : Operand} (ho : o.op = .makeInterface t x) {G : X} (hG : (G.d K.Φ K.ρ).bool = true) {eo : EO}
  (he : (effMakeIface P t (strip G (σ.opd x))).run σ.res = some eo) : EffOk K σ P o a w eo := by
 have hx := strip_rel hG (h.opd x)
 unfold effMakeIface at he
 split at he
 ·rename_i fs cs hu hs
  rw [hs] at hx
  obtain ⟨us, hv, hr⟩ := hx
  split at he
  ·rename_i cts es hd
   have he := RM.run_done he; subst he
   obtain ⟨l1, l2, l3⟩ := selfData_rep hd hr
   refine EffOk.pure h (v := .iface t (.agg us)) ?_ ?_
   ·simp [execOp, ho, hv, Instr.makeInterface, run_underlying hu]
   ·show Rep w gh.F .ifc (.iface t (.agg us)) (.c t cts ((consX es).ds K.Φ K.ρ))
    refine .ifc (by simpa using l2) (by rw [ds_consX_length]; exact l1) fun j ct hj => ?_
    have := l3 j ct hj
    have e : us.toList.getD j undef = us.getD j undef := by simp [List.getD, Array.getD_eq_getD_getElem?]
    rw [← e]; exact this
  ·exact (RM.run_fail he).elim
 ·exact (RM.run_fail he).elim
theorem rep_ifc {F : Nat → Prop} {v : Value} {d : D} (h : Rep w F .ifc v d) : ∃ t vs cts xs, v = .iface t (.agg vs) ∧ d = .c t cts xs ∧ vs.size = cts.length ∧ xs.length = cts.length ∧ ∀ j ct, cts[j]? = some ct → Rep w F ct (vs.getD j undef) (xs.getD j default) := by
 cases h with
 | ifc h1 h2 h3 => exact ⟨_, _, _, _, rfl, rfl, h1, h2, h3⟩
theorem asCells_rel {t : TypeId} {e : X} {zs : List X} : ∀ {cts : List CT} {j : Nat} (vs : List Value), vs.length = cts.length → zs.length = cts.length →
  (∀ i ct, cts[i]? = some ct → Rep w gh.F ct (vs.getD i undef) (((X.ite (.un (.tag t) e) (.psel (j + i) e) (zs.getD i .nil))).d K.Φ K.ρ)) → relS K.Φ K.ρ w gh (asCells t e j cts zs) vs := by
 intro cts
 induction cts generalizing zs with
 | nil =>
  intro j vs h1 h2 _
  cases vs with
  | nil => cases zs <;> trivial
  | cons => simp at h1
 | cons ct cts ih =>
  intro j vs h1 h2 h3
  cases vs with
  | nil => simp at h1
  | cons v vs =>
   cases zs with
   | nil => simp at h2
   | cons z zs =>
    refine ⟨(h3 0 ct rfl : Rep w gh.F ct v _), ih (zs := zs) (j := j + 1) vs (by simpa using h1) (by simpa using h2) fun i ct' hi => ?_⟩
    have := h3 (i + 1) ct' (by simpa using hi)
    rw [show j + 1 + i = j + (i + 1) by omega]
    simpa using this
theorem ds_getD (zs : List X) (j : Nat) (hj : j < zs.length) : ((consX zs).ds K.Φ K.ρ).getD j default = (zs.getD j .nil).d K.Φ K.ρ := by
 induction zs generalizing j with
 | nil => simp at hj
 | cons z zs ih =>
  cases j with
  | zero => rfl
  | succ j => simpa [consX, X.ds] using ih j (by simpa using hj)
theorem eff_typeAssert (h : Inv K σ gh a w) {x : Operand} {xt t : TypeId} {b : Bool} (ho : o.op = .typeAssert x xt t b) {G : X} (hG : (G.d K.Φ K.ρ).bool = true) {eo : EO} {pre : FuncId → List D → Prop}
  (he : (effTypeAssert P t (strip G (σ.opd x)) b).run σ.res = some eo) (hn : ∀ n ∈ eo.nd, n.holds pre K.Φ K.ρ) : EffOk K σ P o a w eo := by
 have hx := strip_rel hG (h.opd x)
 unfold effTypeAssert at he
 split at he
 ·rename_i fs e hu hs
  rw [hs] at hx
  split at he
  ·rename_i cts z hcts hz hag
   split at he
   ·rename_i zs hzs
    split at he
    ·rename_i hlen
     have he := RM.run_done he; subst he
     obtain ⟨t0, vs, cts0, xs, hv, hd, l1, l2, l3⟩ := rep_ifc (show Rep w gh.F .ifc (a.eval x) (e.d K.Φ K.ρ) from hx)
     obtain ⟨zv, hzrun, ⟨zi, hzi, hzz⟩, hzr⟩ := zero_rel (K := K) hz w gh
     obtain ⟨d1, _, d3⟩ := cellsData_rep hzs _ hzr
     have hzl := relS_length hzr
     simp only [beq_iff_eq] at hlen
     have htag : ((X.un (.tag t) e).d K.Φ K.ρ) = .b (t0 == t) := by
      simp only [X.d, Op1.ev, hd]; rfl
     by_cases ht : t0 = t
     ·subst ht
      obtain ⟨t', xs', hc⟩ := hn (.ct (.un (.tag t0) e) cts e) (by simp) (by rw [htag]; simp)
      rw [hd] at hc
      simp only [D.c.injEq] at hc
      obtain ⟨_, rfl, rfl⟩ := hc
      refine EffOk.pure h (v := .tuple #[.agg vs, .bool true]) ?_ ?_
      ·simp [execOp, ho, hv, Instr.typeAssert, run_underlying hu]
      ·refine ⟨#[.agg vs, .bool true], rfl, ⟨vs, rfl, ?_⟩, ?_, trivial⟩
       ·refine asCells_rel vs.toList (by simpa using l1) d1 fun i ct hi => ?_
        have := l3 i ct hi
        have e1 : (X.ite (.un (.tag t0) e) (.psel (0 + i) e) (zs.getD i .nil)).d K.Φ K.ρ = xs.getD i default := by
         show (if ((X.un (.tag t0) e).d K.Φ K.ρ).bool = true then _ else _) = _
         rw [htag]
         simp only [beq_self_eq_true, D.bool_b, if_true, X.d, hd, D.ptd, Nat.zero_add]
        rw [e1]
        have e2 : vs.toList.getD i undef = vs.getD i undef := by simp [List.getD, Array.getD_eq_getD_getElem?]
        rw [e2]; exact this
       ·refine ⟨?_, trivial⟩
        show Rep w gh.F .bool (.bool true) ((X.un (.tag t0) e).d K.Φ K.ρ)
        rw [htag]; simp only [beq_self_eq_true]; exact .bool
     ·refine EffOk.pure h (v := .tuple #[zv, .bool false]) ?_ ?_
      ·simp [execOp, ho, hv, Instr.typeAssert, run_underlying hu, ht, hzrun]
      ·have hza : zv = .agg zv.cells := by
        have hag' := hag
        unfold zeroAgg at hag'
        rw [hzi, Option.bind_some, hzz] at hag'
        revert hag'
        clear hzr hzl d3 hzrun hzz
        cases zv <;> intro h9 <;> first | rfl | cases h9
       refine ⟨#[zv, .bool false], rfl, ⟨zv.cells, hza, ?_⟩, ?_, trivial⟩
       ·refine asCells_rel zv.cells.toList (by rw [← hzl, hlen]) d1 fun i ct hi => ?_
        have := d3 i ct hi
        have hil : i < zs.length := by rw [d1]; exact (List.getElem?_eq_some_iff.1 hi).1
        have e1 : (X.ite (.un (.tag t) e) (.psel (0 + i) e) (zs.getD i .nil)).d K.Φ K.ρ = (zs.getD i .nil).d K.Φ K.ρ := by
         show (if ((X.un (.tag t) e).d K.Φ K.ρ).bool = true then _ else _) = _
         rw [htag, beq_false_of_ne ht]
         simp
        rw [e1, ← ds_getD zs i hil]; exact this
       ·refine ⟨?_, trivial⟩
        show Rep w gh.F .bool (.bool false) ((X.un (.tag t) e).d K.Φ K.ρ)
        rw [htag, beq_false_of_ne ht]; exact .bool
    ·exact (RM.run_fail he).elim
   ·exact (RM.run_fail he).elim
  ·exact (RM.run_fail he).elim
 ·exact (RM.run_fail he).elim
theorem eff_len (h : Inv K σ gh a w) {c : Call} (ho : o.op = .call c) (hc : c.callee = .builtin .len) {x : Operand} {t : TypeId} (hx : c.args.toList = [x]) (ht : c.argTypes.toList = [t]) {G : X} (hG : (G.d K.Φ K.ρ).bool = true) {eo : EO}
  (he : (effLen P G t (strip G (σ.opd x))).run σ.res = some eo) : EffOk K σ P o a w eo := by
 have hr := strip_rel hG (h.opd x)
 have hx' : c.args = #[x] := by apply Array.ext'; simpa using hx
 have ht' : c.argTypes = #[t] := by apply Array.ext'; simpa using ht
 have hi64 : ∀ n : Nat, n ≤ maxLen → IntKind.i64.min ≤ (n : Int) ∧ (n : Int) ≤ IntKind.i64.max := by
  intro n hn
  simp only [maxLen] at hn
  constructor
  ·have : IntKind.i64.min ≤ 0 := by decide
   omega
  ·have : IntKind.i64.max = 9223372036854775807 := by decide
   omega
 have sl : ∀ {e : TypeId} (_ : P.underlying t = some (.slice e)) {q : Option Addr} {n cp : Nat} (_ : a.eval x = .slice q n cp) (_ : n ≤ maxLen) {ex : X} (_ : ex.d K.Φ K.ρ = .i n), EffOk K σ P o a w ⟨.c (.x (.int .i64) ex), [], []⟩ := by
  intro e hu q n cp hv hn ex hd
  refine EffOk.pure h (v := .int .i64 n) (run_builtin ho hc ?_) ?_
  ·simp [builtin, Builtin.len_, hx', ht', run_underlying hu, hv, goInt]
  ·show Rep w gh.F _ _ _
   rw [hd]
   exact .int (hi64 n hn)
 unfold effLen at he
 split at he
 ·rename_i e e' cts s hu hs
  have he := RM.run_done he; subst he
  rw [hs] at hr
  obtain ⟨q, n, cp, hv, hd, hn⟩ : ∃ q n cp, a.eval x = .slice q n cp ∧ (s.d K.Φ K.ρ).lst.length = n ∧ n ≤ maxLen := by
   have hr : Rep w gh.F (.sl e' cts) (a.eval x) (s.d K.Φ K.ρ) := hr
   generalize a.eval x = v at hr
   generalize s.d K.Φ K.ρ = d at hr
   cases hr with
   | nil => exact ⟨_, _, _, rfl, rfl, by simp⟩
   | sl _ _ hl hm _ hn => exact ⟨_, _, _, rfl, hn, by omega⟩
  exact sl hu hv hn (by simp [X.d, Op1.ev, hd])
 ·rename_i e hu hs
  have he := RM.run_done he; subst he
  rw [hs] at hr
  exact sl hu hr.1 (by simp) (by simp [X.d])
 ·rename_i e r ver hu hs
  rw [hs] at hr
  obtain ⟨R, hR, he⟩ := RM.run_res he
  split at he
  ·rename_i ety cts content ver' frz hk
   split at he
   ·rename_i hcc
    have he := RM.run_done he; subst he
    simp only [Bool.and_eq_true, beq_iff_eq] at hcc
    obtain ⟨hc1, rfl⟩ := hcc
    have hon : R.on K := entails_sound _ _ hc1 hG
    have hok := h.res r R hR hon
    rw [hk] at hok
    obtain ⟨_, _, _, h3⟩ := hr
    have hv := h3 hok.1
    obtain ⟨_, _, _, hok⟩ := hok
    obtain ⟨q, n, cp, hv', hd, hn⟩ : ∃ q n cp, gh.rv r = .slice q n cp ∧ (content.d K.Φ K.ρ).lst.length = n ∧ n ≤ maxLen := by
     cases frz with
     | true =>
      simp only [if_true] at hok
      generalize gh.rv r = v at hok
      generalize content.d K.Φ K.ρ = d at hok
      cases hok with
      | nil => exact ⟨_, _, _, rfl, rfl, by simp⟩
      | sl _ _ hl hm _ hn => exact ⟨_, _, _, rfl, hn, by omega⟩
     | false =>
      simp only [fe0, if_false] at hok
      obtain ⟨xs, vals, hd, hown, _⟩ := hok
      rw [hd]
      rcases hown with ⟨_, h2, q, h1⟩ | ⟨g, cap, cur, h1, _, _, _, h2, h3, _⟩
      ·exact ⟨_, _, _, h1, h2, by simp⟩
      ·exact ⟨_, _, _, h1, rfl, by omega⟩
    exact sl hu (hv.trans hv') hn (by simp [X.d, Op1.ev, hd])
   ·exact (RM.run_fail he).elim
  ·exact (RM.run_fail he).elim
 ·rename_i s hu hs
  have he := RM.run_done he; subst he
  rw [hs] at hr
  obtain ⟨hv, hd, hsz⟩ := rep_str hr
  refine EffOk.pure h (v := .int .i64 (s.d K.Φ K.ρ).str.size) (run_builtin ho hc ?_) ?_
  ·simp [builtin, Builtin.len_, hx', ht', run_underlying hu, hv, goInt]
  ·exact rep_mk_int rfl (hi64 _ hsz)
 ·exact (RM.run_fail he).elim
theorem minmax_ok {mx : Bool} : ∀ {vs : List SV} {s r : SV} {us : List Value} {u : Value}, minmax (if mx then .max else .min) s vs = some r → isInt s = true → SV.rel K.Φ K.ρ w gh s u → vs.length = us.length →
  (∀ (j : Nat) s v, vs[j]? = some s → us[j]? = some v → SV.rel K.Φ K.ρ w gh s v) → ∃ v, (us.foldlM (if mx then Builtin.max2 else Builtin.min2) u).run P w = .ok v w ∧ SV.rel K.Φ K.ρ w gh r v
 | [], s, r, us, u, hm, hi, hs, hl, hr => by
  cases us with
  | cons => simp at hl
  | nil =>
   have : s = r := by unfold minmax at hm; simpa using hm
   subst this
   exact ⟨u, rfl, hs⟩
 | t :: vs, s, r, us, u, hm, hi, hs, hl, hr => by
  cases us with
  | nil => simp at hl
  | cons u2 us =>
   unfold minmax at hm
   split at hm
   ·rename_i e; cases e
   ·rename_i k x k' y vs' e
    simp only [List.cons.injEq] at e
    obtain ⟨rfl, rfl⟩ := e
    split at hm
    ·rename_i hk
     simp only [beq_iff_eq] at hk
     subst hk
     have h2 := hr 0 _ u2 rfl rfl
     obtain ⟨e1, d1, b1⟩ := rep_int hs
     obtain ⟨e2, d2, b2⟩ := rep_int h2
     subst e1 e2
     have key : ∃ v, ((if mx then Builtin.max2 else Builtin.min2) (.int k (x.d K.Φ K.ρ).int) (.int k (y.d K.Φ K.ρ).int)).run P w = .ok v w ∧ SV.rel K.Φ K.ρ w gh (.c (.x (.int k) (.bin (if mx then .max else .min) x y))) v := by
      cases mx with
      | true =>
       refine ⟨.int k (if (y.d K.Φ K.ρ).int > (x.d K.Φ K.ρ).int then (y.d K.Φ K.ρ).int else (x.d K.Φ K.ρ).int), rfl, rep_mk_int rfl ?_⟩
       split <;> assumption
      | false =>
       refine ⟨.int k (if (y.d K.Φ K.ρ).int < (x.d K.Φ K.ρ).int then (y.d K.Φ K.ρ).int else (x.d K.Φ K.ρ).int), rfl, rep_mk_int rfl ?_⟩
       split <;> assumption
     obtain ⟨v, hv, hrel⟩ := key
     obtain ⟨v2, hv2, hrel2⟩ := minmax_ok hm rfl hrel (by simpa using hl) (fun j s v hs hv => hr (j + 1) s v (by simpa using hs) (by simpa using hv))
     refine ⟨v2, ?_, hrel2⟩
     simp only [List.foldlM_cons, Sem.run_bind, hv, Result.andThen_ok]
     exact hv2
    ·cases hm
   ·cases hm
theorem eff_minmax (h : Inv K σ gh a w) {c : Call} (ho : o.op = .call c) {mx : Bool} (hc : c.callee = .builtin (if mx then .max else .min)) {G : X} (hG : (G.d K.Φ K.ρ).bool = true) {eo : EO} {v : SV} {vs : List SV}
  (hargs : (c.args.toList.map fun x => strip G (σ.opd x)) = v :: vs) (hi : isInt v = true)
  (he : (RM.val (minmax (if mx then .max else .min) v vs) []).run σ.res = some eo) : EffOk K σ P o a w eo := by
 obtain ⟨s, hs, rfl⟩ := RM.run_val he
 cases hl : c.args.toList with
 | nil => simp [hl] at hargs
 | cons x xs =>
  rw [hl] at hargs
  simp only [List.map_cons, List.cons.injEq] at hargs
  obtain ⟨rfl, rfl⟩ := hargs
  obtain ⟨r, hr, hrel⟩ := minmax_ok (P := P) (us := xs.map a.eval) hs hi (strip_rel hG (h.opd x)) (by simp) (fun j s u hs hu => by
   simp only [List.getElem?_map, Option.map_eq_some_iff] at hs hu
   obtain ⟨q, hq, rfl⟩ := hs
   obtain ⟨q', hq', rfl⟩ := hu
   obtain rfl := Option.some.inj (hq.symm.trans hq')
   exact strip_rel hG (h.opd q))
  refine EffOk.pure h (v := r) (run_builtin ho hc ?_) hrel
  have hm : (c.args.map a.eval).toList = a.eval x :: xs.map a.eval := by simp [hl]
  cases mx with
  | true =>
   simp only [if_true] at hr ⊢
   simp only [builtin, Builtin.max_, hm, Sem.run_bind, hr, Result.andThen_ok, Sem.run_pure]
  | false =>
   simp only [fe0, if_false] at hr ⊢
   simp only [builtin, Builtin.min_, hm, Sem.run_bind, hr, Result.andThen_ok, Sem.run_pure]
theorem append_src {t ty e : TypeId} {i : TypeInfo} {z : Value} {cts : List CT} (ht : P.underlying t = some (.slice e)) (hi : P.info? e = some i) (hz : i.zero = some z) (hsize : i.size = cts.length) (hzs : z.cells.size = cts.length) (hsz : 0 < cts.length)
  {F : Nat → Prop} {v : Value} {xs : List (List D)} {vals : List Value} (hown : OwnR w e cts.length v xs.length vals) (hrep : RowRep w F cts xs vals) {u : Value} {d : D} (hsrc : SrcOk w F cts u d)
  (h63 : xs.length + d.lst.length ≤ maxLen) (hbytes : (xs.length + d.lst.length) * i.bytes ≤ 140737488355328) :
  ∃ v' w' vals', (Builtin.append_ #[t, t] ty #[v, u]).run P w = .ok v' w' ∧ OwnR w' e cts.length v' (xs ++ d.lst).length vals' ∧ RowRep w F cts (xs ++ d.lst) vals' ∧ w.grownBy w' (ownB v) ∧
   (∀ b, ownB v' = some b → ownB v = some b ∨ (b = w.heap.size ∧ b < w'.heap.size)) := by
 rcases hsrc with ⟨rfl, rfl⟩ | ⟨q, n, cp, news, ys, rfl, rfl, hn, hnl, hcells, hone, hrep2⟩
 ·have hr : (Builtin.append_ #[t, t] ty #[v, .slice none 0 0]).run P w = .ok v w := by
   rcases hown.owns with ⟨_, _, q0, rfl⟩ | ⟨ho, _⟩
   ·cases q0 <;> simp [Builtin.append_, run_underlying ht, sizeOf, typeInfo, hi, Builtin.lenOf, Builtin.firstCells, storeCells]
   ·exact run_append_owned_none (P := P) w 0 t ty e i cts.length ht hi v _ vals ho
  refine ⟨v, w, vals, hr, by simpa using hown, by simpa using hrep, ⟨rfl, rfl, rfl, Nat.le_refl _, fun _ _ _ => rfl⟩, fun b hb => .inl hb⟩
 ·simp only [D.lst_l] at h63 hbytes ⊢
  obtain ⟨v', w', hr, h1, h2, h3⟩ := append_runO (P := P) (ty := ty) ht hi hz hsize hzs hsz hown hnl hcells hone (by omega) (by rw [← hn]; exact hbytes)
  exact ⟨v', w', _, hr, by rw [List.length_append, hn]; exact h1, rowRep_append hrep hown.len hrep2, h2, h3⟩
theorem roomFor_spec {e : TypeId} {room : Nat} (h : roomFor P e = some room) {i : TypeInfo} (hi : P.info? e = some i) {n : Nat} (hn : n ≤ room) : n ≤ maxLen ∧ n * i.bytes ≤ 140737488355328 := by
 unfold roomFor at h
 rw [hi] at h
 simp only at h
 split at h
 ·cases h
 ·rename_i hb
  simp only [si0] at h
  subst h
  have hb' : 0 < i.bytes := Nat.pos_of_ne_zero (by simpa using hb)
  constructor
  ·have := Nat.div_le_self 140737488355328 i.bytes
   simp only [maxLen]
   omega
  ·exact Nat.le_trans (Nat.mul_le_mul_right _ hn) (Nat.div_mul_le_self _ _)
theorem leX_spec {x y : X} {pre : FuncId → List D → Prop} (h : Nd.holds pre K.Φ K.ρ (.c (leX x y))) : (x.d K.Φ K.ρ).int ≤ (y.d K.Φ K.ρ).int := by
 simpa [Nd.holds, leX, X.d, Op2.ev] using h
theorem own_slice {e : TypeId} {size n : Nat} {v : Value} {vals : List Value} (h : OwnR w e size v n vals) : ∃ q m c, v = .slice q m c := h.slice
theorem new_ver0 (h : Inv K σ gh a w) {id : Nat} (hid : σ.res[id]? = some none) : gh.vr id = 0 := by
 cases hv : gh.vr id with
 | zero => rfl
 | succ n =>
  obtain ⟨x, hx, _⟩ := h.vr0 id (by omega)
  unfold St.has at hx
  rw [hid] at hx
  cases hx
theorem eff_append (h : Inv K σ gh a w) {c : Call} (ho : o.op = .call c) (hc : c.callee = .builtin .append) {s x : Operand} {t : TypeId} (hx : c.args.toList = [s, x]) (ht : c.argTypes.toList = [t, t]) {G : X} (hG : (G.d K.Φ K.ρ).bool = true)
  {id : Nat} (hid : σ.res[id]? = some none) {eo : EO} {pre : FuncId → List D → Prop}
  (he : (effAppend P G id t (strip G (σ.opd s)) (strip G (σ.opd x))).run σ.res = some eo) (hn : ∀ n ∈ eo.nd, n.holds pre K.Φ K.ρ) : EffOk K σ P o a w eo := by
 have hrs := strip_rel hG (h.opd s)
 have hrx := strip_rel hG (h.opd x)
 have hx' : c.args = #[s, x] := by apply Array.ext'; simpa using hx
 have ht' : c.argTypes = #[t, t] := by apply Array.ext'; simpa using ht
 have hidl : id < σ.res.length := (List.getElem?_eq_some_iff.1 hid).1
 unfold effAppend at he
 split at he
 ·rename_i e hu
  split at he
  ·rename_i cts room hcts hroom
   split at he
   ·exact (RM.run_fail he).elim
   ·rename_i hcond
    simp only [Bool.or_eq_true, Bool.not_eq_true', beq_iff_eq, not_or, Bool.not_eq_false] at hcond
    obtain ⟨⟨hse, hc0⟩, hzl⟩ := hcond
    have hpos : 0 < cts.length := Nat.pos_of_ne_zero hc0
    have hsz := sizeEq_spec hse
    obtain ⟨i, z, hi, hz, hzs⟩ : ∃ i z, P.info? e = some i ∧ i.zero = some z ∧ z.cells.size = cts.length := by
     unfold zeroLen at hzl
     split at hzl
     ·rename_i zc hzc
      obtain ⟨z, _, ⟨i, h1, h2⟩, h3⟩ := zero_rel (K := K) (gh := gh) hzc w
      have h4 := relS_length h3
      simp only [beq_iff_eq, Array.length_toList] at hzl h4
      exact ⟨i, z, h1, h2, by omega⟩
     ·cases hzl
    have hsize : i.size = cts.length := by
     unfold sizeT at hsz
     rw [hi] at hsz
     simpa using hsz
    split at he
    ·rename_i xc hxc
     rw [hxc] at hrx
     obtain ⟨cx, he, hsrc⟩ := srcArg_ok h hG hpos he hrx
     have hlc : ((Op1.len.ev (cx.d K.Φ K.ρ)).int) = ((cx.d K.Φ K.ρ).lst.length : Int) := rfl
     split at he
     ·rename_i hs
      have he := RM.run_done he; subst he
      rw [hs] at hrs
      have hsv := hrs.1
      have hlim := leX_spec (hn (.c (leX (.un .len cx) (.n room))) (by simp))
      simp only [X.d, D.int_i, hlc] at hlim
      obtain ⟨hm1, hm2⟩ := roomFor_spec hroom hi (n := (cx.d K.Φ K.ρ).lst.length) (by omega)
      obtain ⟨v', w', vals', hr, h1, h2, h3, h4⟩ := append_src (P := P) (w := w) (ty := o.type) (F := gh.F) hu hi hz hsize hzs hpos (v := .slice none 0 0) (xs := []) (vals := [])
       (.inl ⟨rfl, rfl, _, rfl⟩) (fun i hi => by simp at hi) hsrc (by simpa using hm1) (by simpa using hm2)
      obtain ⟨gh', hI, hle, hrv, hvr, hF⟩ := row_step h (r := id) hidl (ob := none) (fun b hb => by cases hb) (ver := 1) (by rw [new_ver0 h hid]; omega) hG h3 (content := .bin .cat .lnil cx)
       (xs := [] ++ (cx.d K.Φ K.ρ).lst) (by simp [X.d, Op2.ev]) h1 h2 (fun b hb => (h4 b hb).imp (fun e => by cases e) (fun e => e))
      refine Does.val (run_builtin ho hc ?_) ⟨gh', by simpa [setAll] using hI, own_slice h1, Nat.le_refl _, by rw [hvr]; exact Nat.le_refl _, fun _ => hrv.symm⟩
      rw [hx', ht']
      simp only [builtin, Sem.run_bind]
      have : (#[s, x].map a.eval) = #[.slice none 0 0, a.eval x] := by simp [hsv]
      rw [this, hr]
      simp
     ·rename_i r ver hs
      rw [hs] at hrs
      obtain ⟨R, hR, he⟩ := RM.run_res he
      split at he
      ·rename_i ety cts' content ver' frz hk
       split at he
       ·rename_i hcc
        have he := RM.run_done he; subst he
        simp only [Bool.and_eq_true, beq_iff_eq, Bool.not_eq_true'] at hcc
        obtain ⟨⟨⟨⟨⟨hg1, hg2⟩, hfz⟩, rfl⟩, rfl⟩, hcb⟩ := hcc
        have := CT.beqs_eq _ _ hcb
        subst this
        have hon : R.on K := isTt_sound hg2
        have hok := h.res r R hR hon
        rw [hk] at hok
        obtain ⟨_, _, _, h3⟩ := hrs
        have hv := h3 hok.1
        obtain ⟨hvr0, hver1, _, hok⟩ := hok
        rw [hfz] at hok
        simp only [fe0, if_false] at hok
        obtain ⟨xs, vals, hd, hown, hrep⟩ := hok
        have hlim := leX_spec (hn (.c (leX (.un .len (.bin .cat content cx)) (.n room))) (by simp))
        simp only [X.d, D.int_i, Op1.ev, Op2.ev, hd, D.lst_l, List.length_append] at hlim
        obtain ⟨hm1, hm2⟩ := roomFor_spec hroom hi (n := xs.length + (cx.d K.Φ K.ρ).lst.length) (by omega)
        obtain ⟨v', w', vals', hr, h1, h2, h3, h4⟩ := append_src (P := P) (w := w) (ty := o.type) (F := gh.F) hu hi hz hsize hzs hpos hown hrep hsrc hm1 hm2
        have hlt : r < σ.res.length := (List.getElem?_eq_some_iff.1 hR).1
        obtain ⟨gh', hI, hle, hrv, hvr, hF⟩ := row_step h (r := r) hlt (ob := ownB (gh.rv r)) (fun b hb => ⟨R, hR, hon, by rw [hk, hfz]; exact hb⟩) (ver := ver + 1) (by omega) (g := R.g) hon h3 (content := .bin .cat content cx)
         (xs := xs ++ (cx.d K.Φ K.ρ).lst) (by simp [X.d, Op2.ev, hd]) h1 h2 h4
        refine Does.val (run_builtin ho hc ?_) ⟨gh', by simpa [setAll] using hI, own_slice h1, by omega, by rw [hvr]; exact Nat.le_refl _, fun _ => hrv.symm⟩
        rw [hx', ht']
        simp only [builtin, Sem.run_bind]
        have : (#[s, x].map a.eval) = #[gh.rv r, a.eval x] := by simp [hv]
        rw [this, hr]
        simp
       ·exact (RM.run_fail he).elim
      ·exact (RM.run_fail he).elim
     ·exact (RM.run_fail he).elim
    ·exact (RM.run_fail he).elim
  ·exact (RM.run_fail he).elim
 ·exact (RM.run_fail he).elim
theorem copy_row (h : Inv K σ gh a w) {r : Nat} {x : Res} (hx : σ.has r x) (hon : x.on K) {ety : TypeId} {ct : CT} {content : X} {ver : Nat} (hk : x.k = .row ety [ct] content ver false) {b len cap : Nat}
  (hrv : gh.rv r = .slice (some ⟨b, 0, none⟩) len cap) {cx : X} {ys : List (List D)} {news : List Value} (hd : cx.d K.Φ K.ρ = .l ys) (hyl : ys.length = len) (hnl : news.length = len) (hpos : 0 < len) (hrep : RowRep w gh.F [ct] ys news) :
  ∃ cur, w.heap[b]? = some (.cells cur ety (0, 0)) ∧ 0 + news.length ≤ cur.size ∧
   Inv K ⟨σ.slots, σ.res.set r (some ⟨x.g, .row ety [ct] cx ver false⟩)⟩ gh a (w.setRow b (cur.toList.take 0 ++ news ++ cur.toList.drop (0 + news.length)).toArray) := by
 have hok := h.res r x hx hon
 rw [hk] at hok
 obtain ⟨hv1, hv2, hv3, zs, vals, hd0, hown, _⟩ := hok
 rw [hrv] at hown
 rcases hown with ⟨_, hz0, _, hbad⟩ | ⟨g, cap', cur, hq, hc0, hl0, hg, hlc, hcm, hcs, htk⟩
 ·simp only [Value.slice.injEq] at hbad; omega
 simp only [Value.slice.injEq, si0, Addr.mk.injEq] at hq
 obtain ⟨⟨rfl, _⟩, hzl, rfl⟩ := hq
 obtain ⟨c9, rfl⟩ : ∃ c, cap = c + 1 := ⟨cap - 1, by omega⟩
 have hlt : r < σ.res.length := (List.getElem?_eq_some_iff.1 hx).1
 have hlive : x.k.live gh r = some b := by rw [hk]; simp [RK.live, hrv, ownB]
 obtain ⟨o1, o2, o3⟩ := h.own r x b hx hon hlive
 simp only [List.length_singleton, Nat.mul_one] at *
 refine ⟨cur, hg, by omega, ?_⟩
 generalize hcs' : (cur.toList.take 0 ++ news ++ cur.toList.drop (0 + news.length)).toArray = cs'
 have hFb : ∀ c, gh.F c → (w.setRow b cs').heap[c]? = w.heap[c]? := fun c hc => setRow_other w b c _ (by rintro rfl; exact o2 hc)
 refine h.step (T := fun q => q = r) ⟨Gh.le.refl gh, rfl, rfl, rfl, by simp, fun q hq => ⟨by simp [Ne.symm hq], rfl, rfl, rfl⟩,
  fun c hc hT => setRow_other w b c _ (by rintro rfl; exact hT r x rfl hx hon hlive), fun c hc => by have := h.Flt c hc; simpa using this, fun c hc => .inl hc,
  fun q y hT hy hony => ?_, fun q y c hT hy hony hl => ?_, fun q y q' y' c hT hT' _ _ _ _ _ _ => hT.trans hT'.symm, fun q c hT hb => ?_, fun q hT hr => ?_⟩
 ·subst hT
  rw [getElem?_set_has hlt] at hy
  simp only [si0] at hy
  subst hy
  refine ⟨hv1, hv2, hv3, ys, news, hd, ?_, ?_⟩
  ·rw [hrv, hyl]
   refine .inr ⟨b, c9 + 1, cs', rfl, hc0, by simp [hnl], setRow_get w b cur cs' ety (0, 0) hg, by omega, hcm, ?_, ?_⟩
   ·subst hcs'
    simp; omega
   ·subst hcs'
    simp [← hnl]
  ·intro k hk'
   refine ⟨(hrep k hk').1, fun j ct' hj => ((hrep k hk').2 j ct' hj).mono (fun _ h => h) hFb⟩
 ·subst hT
  rw [getElem?_set_has hlt] at hy
  simp only [si0] at hy
  subst hy
  simp only [RK.live, hrv, ownB, si0] at hl
  subst hl
  exact ⟨o1, o2, by simpa using o3, fun r2 x2 hT2 hx2 hon2 hl2 => hT2 (h.inj r2 x2 _ x b hx2 hon2 hx hon hl2 hlive)⟩
 ·subst hT
  exact ⟨_, getElem?_set_has hlt, hon⟩
 ·subst hT
  exact ⟨_, getElem?_set_has hlt, hon⟩
theorem row_same (h : Inv K σ gh a w) {r : Nat} {x : Res} (hx : σ.has r x) (hon : x.on K) {ety : TypeId} {cts : List CT} {content cx : X} {ver : Nat} (hk : x.k = .row ety cts content ver false) (hd : cx.d K.Φ K.ρ = content.d K.Φ K.ρ) :
  Inv K ⟨σ.slots, σ.res.set r (some ⟨x.g, .row ety cts cx ver false⟩)⟩ gh a w := by
 have hok := h.res r x hx hon
 rw [hk] at hok
 have hlt : r < σ.res.length := (List.getElem?_eq_some_iff.1 hx).1
 have hsame : ∀ b, (RK.row ety cts cx ver false).live gh r = some b → x.k.live gh r = some b := fun b hb => by rw [hk]; exact hb
 refine h.step (T := fun q => q = r) ⟨Gh.le.refl gh, rfl, rfl, rfl, Nat.le_refl _, fun q hq => ⟨by simp [Ne.symm hq], rfl, rfl, rfl⟩,
  fun _ _ _ => rfl, h.Flt, fun c hc => .inl hc,
  fun q y hT hy hony => ?_, fun q y c hT hy hony hl => ?_, fun q y q' y' c hT hT' _ _ _ _ _ _ => hT.trans hT'.symm, fun q c hT hb => ?_, fun q hT hr => ?_⟩
 ·subst hT
  rw [getElem?_set_has hlt] at hy
  simp only [si0] at hy
  subst hy
  obtain ⟨h1, h2, h3, h4⟩ := hok
  refine ⟨h1, h2, h3, ?_⟩
  rw [hd]; exact h4
 ·subst hT
  rw [getElem?_set_has hlt] at hy
  simp only [si0] at hy
  subst hy
  obtain ⟨o1, o2, o3⟩ := h.own _ x c hx hon (hsame c hl)
  exact ⟨o1, o2, o3, fun r2 x2 hT2 hx2 hon2 hl2 => hT2 (h.inj r2 x2 _ x c hx2 hon2 hx hon hl2 (hsame c hl))⟩
 ·subst hT
  exact ⟨_, getElem?_set_has hlt, hon⟩
 ·subst hT
  exact ⟨_, getElem?_set_has hlt, hon⟩
theorem eff_copy (h : Inv K σ gh a w) {c : Call} (ho : o.op = .call c) (hc : c.callee = .builtin .copy) {s x : Operand} {t t' : TypeId} (hx : c.args.toList = [s, x]) (ht : c.argTypes.toList = [t, t']) {G : X} (hG : (G.d K.Φ K.ρ).bool = true)
  {eo : EO} {pre : FuncId → List D → Prop}
  (he : (effCopy P G t (strip G (σ.opd s)) (strip G (σ.opd x))).run σ.res = some eo) (hn : ∀ n ∈ eo.nd, n.holds pre K.Φ K.ρ) : EffOk K σ P o a w eo := by
 have hrs := strip_rel hG (h.opd s)
 have hrx := strip_rel hG (h.opd x)
 have hx' : c.args = #[s, x] := by apply Array.ext'; simpa using hx
 have ht' : c.argTypes = #[t, t'] := by apply Array.ext'; simpa using ht
 unfold effCopy at he
 split at he
 ·rename_i e hu
  split at he
  ·rename_i ct hcts
   split at he
   ·exact (RM.run_fail he).elim
   ·rename_i hse
    simp only [Bool.not_eq_true', Bool.not_eq_false] at hse
    have hsz := sizeEq_spec hse
    have hsize : (P.info? e).map (·.size) = some 1 := hsz
    split at he
    ·rename_i xc hxc
     rw [hxc] at hrx
     obtain ⟨cx, he, hsrc⟩ := srcArg_ok h hG (by simp) he hrx
     split at he
     ·rename_i r ver hs
      rw [hs] at hrs
      obtain ⟨R, hR, he⟩ := RM.run_res he
      split at he
      ·rename_i ety cts' content ver' frz hk
       split at he
       ·rename_i hcc
        have he := RM.run_done he; subst he
        simp only [Bool.and_eq_true, beq_iff_eq, Bool.not_eq_true'] at hcc
        obtain ⟨⟨⟨⟨⟨hg1, hg2⟩, hfz⟩, rfl⟩, rfl⟩, hcb⟩ := hcc
        have := CT.beqs_eq _ _ hcb
        subst this
        subst hfz
        have hon : R.on K := isTt_sound hg2
        have hok := h.res r R hR hon
        rw [hk] at hok
        obtain ⟨_, _, _, h3⟩ := hrs
        have hv := h3 hok.1
        obtain ⟨hvr0, hver1, hver2, hok⟩ := hok
        simp only [fe0, if_false] at hok
        obtain ⟨zs, vals, hd, hown, hrep⟩ := hok
        have hlen := hn (.c (.bin .eq (.un .len content) (.un .len cx))) (by simp)
        have hlen : (zs.length : Int) = ((cx.d K.Φ K.ρ).lst.length : Int) := by
         have h1 : decide ((((content.d K.Φ K.ρ).lst.length : Nat) : Int) = (((cx.d K.Φ K.ρ).lst.length : Nat) : Int)) = true := hlen
         rw [hd] at h1
         exact of_decide_eq_true h1
        have hsame : cx.d K.Φ K.ρ = .l (cx.d K.Φ K.ρ).lst := by rcases hsrc with ⟨_, e⟩ | ⟨_, _, _, _, _, _, e, _⟩ <;> rw [e] <;> rfl
        have hval : ∀ n : Nat, n = (cx.d K.Φ K.ρ).lst.length → n ≤ maxLen → SV.rel K.Φ K.ρ w gh (.c (.x (.int .i64) (.un .len cx))) (goInt n) := fun n e hm => by
         subst e
         have : (X.un .len cx).d K.Φ K.ρ = .i ((cx.d K.Φ K.ρ).lst.length : Int) := rfl
         show Rep w gh.F (.int .i64) _ _
         rw [this]
         have e1 : IntKind.i64.min = -9223372036854775808 := by decide
         have e2 : IntKind.i64.max = 9223372036854775807 := by decide
         have e3 : maxLen = 9223372036854775807 := rfl
         exact Rep.int ⟨by rw [e1]; omega, by rw [e2]; omega⟩
        have hargs : ∀ u, a.eval x = u → (#[s, x].map a.eval) = #[gh.rv r, u] := fun u e => by simp [hv, e]
        by_cases hz : zs.length = 0
        ·have hz' : (cx.d K.Φ K.ρ).lst = [] := List.length_eq_zero_iff.1 (by omega)
         have hzz : zs = [] := List.length_eq_zero_iff.1 hz
         obtain ⟨dq, dn, dc, hdv, hdn⟩ : ∃ q n c, gh.rv r = .slice q n c ∧ n = 0 := by
          rcases hown with ⟨_, _, q, e⟩ | ⟨g, cap, cur, e, _⟩
          ·exact ⟨_, _, _, e, rfl⟩
          ·exact ⟨_, _, _, e, hz⟩
         obtain ⟨sq, sn, sc, hsv, hsn⟩ : ∃ q n c, a.eval x = .slice q n c ∧ n = 0 := by
          rcases hsrc with ⟨e, _⟩ | ⟨q, n, c, news, xs, e, e2, e3, _⟩
          ·exact ⟨_, _, _, e, rfl⟩
          ·exact ⟨_, _, _, e, by rw [e2] at hz'; rw [← e3]; simpa using hz'⟩
         refine Does.val (run_builtin ho hc ?_) ⟨gh, by simpa [setAll] using row_same h hR hon hk (cx := cx) (by rw [hsame, hd, hz', hzz]), hval 0 (by rw [hz']; rfl) (Nat.zero_le _)⟩
         rw [hx', ht']
         simp only [builtin, Sem.run_bind]
         rw [hargs _ hsv, hdv, run_copy_none (P := P) w t t' o.type _ dq sq dn dc sn sc hu hsize (by simp [hdn])]
         rfl
        ·rcases hown with ⟨_, e0, _⟩ | ⟨g, cap, cur, hrv, hc0, hl0, hg, hlc, hcm, hcs, htk⟩
         ·exact absurd e0 hz
         rcases hsrc with ⟨_, e⟩ | ⟨q, n, cp, news, xs, hsv, hxd, hxn, hnl, hcells, hone, hrp⟩
         ·rw [e] at hlen; simp only [D.lst_l, List.length_nil] at hlen; exact absurd (by omega) hz
         have hln : xs.length = zs.length := by rw [hxd] at hlen; simp only [D.lst_l] at hlen; omega
         simp only [List.length_singleton, Nat.mul_one] at hnl
         obtain ⟨cur', hg', hfit, hI⟩ := copy_row h hR hon hk hrv hxd (hyl := hln) (news := news) (by omega) (by omega) hrp
         have hrun := run_builtin (P := P) (w := w) (w' := w.setRow g (cur'.toList.take 0 ++ news ++ cur'.toList.drop (0 + news.length)).toArray) (v := goInt news.length) ho hc (by
          rw [hx', ht']
          simp only [builtin, Sem.run_bind]
          rw [hargs _ hsv, hrv, run_copy_row (P := P) w t t' o.type _ g 0 zs.length cap q n cp cur' _ news hu hsize hg' (by show news.length = min n zs.length; omega) hcells hfit hone]
          rfl)
         have hlm : news.length ≤ maxLen := by omega
         have hlc2 : news.length = (cx.d K.Φ K.ρ).lst.length := by rw [hxd]; simp only [D.lst_l]; omega
         have hv2 := hval news.length hlc2 hlm
         refine Does.val hrun ⟨gh, by simpa [setAll] using hI, ?_⟩
         have : (X.un .len cx).d K.Φ K.ρ = .i ((cx.d K.Φ K.ρ).lst.length : Int) := rfl
         show Rep _ gh.F (.int .i64) _ _
         rw [this, ← hlc2]
         have e1 : IntKind.i64.min = -9223372036854775808 := by decide
         have e2 : IntKind.i64.max = 9223372036854775807 := by decide
         have e3 : maxLen = 9223372036854775807 := rfl
         exact Rep.int ⟨by rw [e1]; omega, by rw [e2]; omega⟩
       ·exact (RM.run_fail he).elim
      ·exact (RM.run_fail he).elim
     ·exact (RM.run_fail he).elim
    ·exact (RM.run_fail he).elim
  ·exact (RM.run_fail he).elim
 ·exact (RM.run_fail he).elim
theorem rowRep_rep {F : Nat → Prop} {cts : List CT} {ds : List D} {us : Array Value} (hl : ds.length = cts.length) (hu : us.size = cts.length) (hr : ∀ j ct, cts[j]? = some ct → Rep w F ct (us.toList.getD j undef) (ds.getD j default)) (n : Nat) :
  RowRep w F cts (List.replicate n ds) (madeCells us (n * cts.length)).toList := by
 intro i hi
 simp only [List.length_replicate] at hi
 have e1 : (List.replicate n ds).getD i [] = ds := by simp [List.getD, hi]
 rw [e1]
 refine ⟨hl, fun j ct hj => ?_⟩
 have hjl : j < cts.length := (List.getElem?_eq_some_iff.1 hj).1
 have hb := mul_lt_bound (j := j + 1) (m := cts.length) hi (by omega)
 have e2 : (madeCells us (n * cts.length)).toList.getD (i * cts.length + j) undef = us.toList.getD j undef := by
  have hm : (i * cts.length + j) % us.size = j := by rw [hu, Nat.mul_comm, Nat.mul_add_mod]; exact Nat.mod_eq_of_lt hjl
  simp only [madeCells, List.getD, Array.getElem?_toList]
  rw [Array.getElem?_map, Array.getElem?_range, if_pos (by omega)]
  simp only [Option.map_some, Option.getD_some, hm]
  have hju : j < us.size := by omega
  simp [hju]
 rw [e2]
 exact hr j ct hj
theorem eff_makeSlice (h : Inv K σ gh a w) {t : TypeId} {l c : Operand} (ho : o.op = .makeSlice t l c) {G : X} (hG : (G.d K.Φ K.ρ).bool = true) {id : Nat} (hid : σ.res[id]? = some none) {eo : EO} {pre : FuncId → List D → Prop}
    (he : (effMakeSlice P G id t (strip G (σ.opd l)) (strip G (σ.opd c))).run σ.res = some eo) (hn : ∀ n ∈ eo.nd, n.holds pre K.Φ K.ρ) : EffOk K σ P o a w eo := by
  have hrl := strip_rel hG (h.opd l)
  have hrc := strip_rel hG (h.opd c)
  have hidl : id < σ.res.length := (List.getElem?_eq_some_iff.1 hid).1
  unfold effMakeSlice at he
  split at he
  · rename_i e le ce hu hl hc
    rw [hl] at hrl
    rw [hc] at hrc
    split at he
    · rename_i cts room z hcts hroom hz
      split at he
      · rename_i zs hzs
        split at he
        · rename_i hcond
          have he := RM.run_done he; subst he
          simp only [Bool.and_eq_true, beq_iff_eq, Bool.not_eq_true', beq_eq_false_iff_ne] at hcond
          obtain ⟨⟨⟨hlc, hse⟩, hzl⟩, hc0⟩ := hcond
          have := X.beq_eq _ _ hlc
          subst this
          obtain ⟨vl, dl, bl⟩ := rep_int hrl
          obtain ⟨vc, dc, bc⟩ := rep_int hrc
          have hlo := leX_spec (hn (.c (leX (.n 0) le)) (by simp))
          have hhi := leX_spec (hn (.c (leX le (.n room))) (by simp))
          simp only [X.d, D.int_i] at hlo hhi
          obtain ⟨zv, _, ⟨i, hi, hiz⟩, hzr⟩ := zero_rel (K := K) (gh := gh) hz w
          have hzsz := relS_length hzr
          simp only [Array.length_toList] at hzsz
          have hsize : i.size = cts.length := by
            have := sizeEq_spec hse
            unfold sizeT at this
            rw [hi] at this
            simpa using this
          obtain ⟨m, hm⟩ : ∃ m : Nat, (le.d K.Φ K.ρ).int = m := ⟨_, (Int.toNat_of_nonneg hlo).symm⟩
          obtain ⟨hm1, hm2⟩ := roomFor_spec hroom hi (n := m) (by omega)
          obtain ⟨d1, d2, d3⟩ := cellsData_rep hzs _ hzr
          obtain ⟨w', hr, h1, h2⟩ := run_make_full (P := P) w 0 t e i zv cts.length hu hi hiz hsize .i64 .i64 m (by rw [Nat.mul_comm]; omega) hm1 (Nat.zero_le _)
          have hrep := rowRep_rep (w := w) (F := gh.F) (cts := cts) (ds := (consX zs).ds K.Φ K.ρ) (us := zv.cells) (by rw [ds_consX_length]; exact d1) (by omega) d3 m
          obtain ⟨gh', hI, hle, hrv, hvr, hF⟩ := row_step h (r := id) hidl (ob := none) (fun b hb => by cases hb) (ver := 1) (by rw [new_ver0 h hid]; omega) hG h2 (content := .rep le (consX zs))
            (xs := List.replicate m ((consX zs).ds K.Φ K.ρ)) (by simp [X.d, hm]) (by simpa using OwnR.of h1) hrep (fun b hb => .inr (by
              have hb := ownB_own hb
              simp only [Value.ownBlock, si0] at hb
              subst hb
              refine ⟨rfl, ?_⟩
              rcases h1.2 with ⟨hx, _⟩ | ⟨g, cap, cur, hx, _, hg, _⟩
              · cases hx
              · simp only [Value.slice.injEq, si0, Addr.mk.injEq] at hx
                rw [hx.1.1]
                exact (Array.getElem?_eq_some_iff.1 hg).1))
          refine Does.val (v := _) (w' := w') ?_ ⟨gh', by simpa [setAll] using hI, ⟨_, _, _, rfl⟩, Nat.le_refl _, by rw [hvr]; exact Nat.le_refl _, fun _ => hrv.symm⟩
          simp only [execOp, ho, vl, vc, hm, Sem.run_bind, hr, Result.andThen_ok, Sem.run_pure]
        · exact (RM.run_fail he).elim
      · exact (RM.run_fail he).elim
    · exact (RM.run_fail he).elim
  · exact (RM.run_fail he).elim
theorem run_sub {t el : TypeId} {s : Nat} (ht : P.underlying t = some (.slice el)) (hs : sizeT P el = some s) {q : Option Addr} {len cap : Nat} {lo hi : Option Value} {l h : Nat} (hlo : (lo = none ∧ l = 0) ∨ ∃ k, lo = some (.int k (l : Int)))
  (hhi : (hi = none ∧ h = len) ∨ ∃ k, hi = some (.int k (h : Int))) (h1 : l ≤ h) (h2 : h ≤ cap) :
  (Instr.sliceAt t (.slice q len cap) lo hi none).run P w = .ok (.slice (if cap = l then q else q.map (·.add (l * s))) (h - l) (cap - l)) w := by
 have e1 : (l : Int) ≤ (h : Int) := by omega
 have e2 : (h : Int) ≤ (cap : Int) := by omega
 rcases hlo with ⟨rfl, rfl⟩ | ⟨k, rfl⟩ <;> rcases hhi with ⟨rfl, rfl⟩ | ⟨k', rfl⟩ <;>
  simp [Instr.sliceAt, Instr.slice, run_underlying ht, Instr.sliceBounds, run_sliceBound, run_sizeT hs, *]
theorem rep_sub {F : Nat → Prop} {e : TypeId} {cts : List CT} {q : Option Addr} {len cap : Nat} {d : D} (h : Rep w F (.sl e cts) (.slice q len cap) d) {l r : Nat} (h1 : l ≤ r) (h2 : r ≤ len) :
  Rep w F (.sl e cts) (.slice (if cap = l then q else q.map (·.add (l * cts.length))) (r - l) (cap - l)) (.l ((d.lst.take r).drop l)) := by
 cases h with
 | nil =>
  have : l = 0 := by omega
  subst this
  have : r = 0 := by omega
  subst this
  simp only [if_true, D.lst_l]
  exact .nil
 | sl hF hg hl hm hc hn hx hr =>
  rename_i g oo cur t fz xs
  simp only [D.lst_l]
  have hlen : ((xs.take r).drop l).length = r - l := by simp; omega
  have hget : ∀ i, i < r - l → ((xs.take r).drop l).getD i [] = xs.getD (l + i) [] := by
   intro i hi
   simp only [List.getD, List.getElem?_drop, List.getElem?_take]
   rw [if_pos (by omega)]
  by_cases hcl : cap = l
  ·subst hcl
   rw [if_pos rfl]
   refine .sl hF hg (by omega) (by omega) (by have := Nat.le_add_right oo (cap * cts.length); simp; omega) hlen (fun i hi => by omega) fun i j ct hi => by omega
  ·rw [if_neg hcl]
   simp only [Option.map_some, addr_add]
   have hcap : l * cts.length + (cap - l) * cts.length = cap * cts.length := by rw [← Nat.add_mul]; congr 1; omega
   refine .sl hF hg (by omega) (by omega) (by omega) hlen (fun i hi => by rw [hget i hi]; exact hx _ (by omega)) fun i j ct hi hj => ?_
   rw [hget i hi]
   have := hr (l + i) j ct (by omega) hj
   rw [Nat.add_mul, ← Nat.add_assoc] at this
   exact this
theorem optInt_spec {d e : X} {x : Option Operand} {G : X} (hG : (G.d K.Φ K.ρ).bool = true) (h : Inv K σ gh a w) (he : optInt d (x.map fun x => strip G (σ.opd x)) = some e) :
  (x.map a.eval = none ∧ e = d) ∨ ∃ k, x.map a.eval = some (.int k (e.d K.Φ K.ρ).int) := by
 cases x with
 | none => simp only [Option.map_none, optInt, si0] at he; exact .inl ⟨rfl, he.symm⟩
 | some x =>
  have hr := strip_rel hG (h.opd x)
  simp only [Option.map_some] at he ⊢
  unfold optInt at he
  split at he
  ·rename_i e; cases e
  ·rename_i k e' hs
   simp only [si0] at he hs
   subst he
   rw [hs] at hr
   exact .inr ⟨k, congrArg some (rep_int hr).1⟩
  ·cases he
theorem eff_slice (h : Inv K σ gh a w) {t : TypeId} {x : Operand} {lo hi mx : Option Operand} (ho : o.op = .slice t x lo hi mx) {G : X} (hG : (G.d K.Φ K.ρ).bool = true) {eo : EO} {pre : FuncId → List D → Prop}
  (he : (effSlice P G t (strip G (σ.opd x)) (lo.map fun x => strip G (σ.opd x)) (hi.map fun x => strip G (σ.opd x)) (mx.map fun x => strip G (σ.opd x))).run σ.res = some eo) (hn : ∀ n ∈ eo.nd, n.holds pre K.Φ K.ρ) : EffOk K σ P o a w eo := by
 have hrx := strip_rel hG (h.opd x)
 have core : ∀ {e el : TypeId} {cts : List CT} {s l hh : X} {gh : Gh} {σ' : St} (_ : Inv K σ' gh a w) (_ : σ'.slots = σ.slots) (_ : P.underlying t = some (.slice el)) (_ : mx = none) (_ : Rep w gh.F (.sl e cts) (a.eval x) (s.d K.Φ K.ρ)) (_ : sizeT P el = some cts.length)
   (_ : optInt (.n 0) (lo.map fun x => strip G (σ.opd x)) = some l) (_ : optInt (.un .len s) (hi.map fun x => strip G (σ.opd x)) = some hh)
   (_ : (0 : Int) ≤ (l.d K.Φ K.ρ).int ∧ (l.d K.Φ K.ρ).int ≤ (hh.d K.Φ K.ρ).int ∧ (hh.d K.Φ K.ρ).int ≤ (s.d K.Φ K.ρ).lst.length),
   Does P o a w (fun v w' => ∃ gh', Inv K ⟨σ.slots, σ'.res⟩ gh' a w' ∧ SV.rel K.Φ K.ρ w' gh' (.c (.x (.sl e cts) (.sub s l hh))) v) := by
  intro e el cts s l hh gh1 σ' hI hsl hu hmx hrep hsz hlo hhi ⟨b1, b2, b3⟩
  subst hmx
  obtain ⟨q, len, cap, hv, hlen, hle⟩ : ∃ q len cap, a.eval x = .slice q len cap ∧ (s.d K.Φ K.ρ).lst.length = len ∧ len ≤ cap := by
   generalize a.eval x = v at hrep
   generalize s.d K.Φ K.ρ = d at hrep
   cases hrep with
   | nil => exact ⟨_, _, _, rfl, rfl, Nat.le_refl _⟩
   | sl _ _ hl hm _ hn => exact ⟨_, _, _, rfl, hn, hl⟩
  have el1 : ((l.d K.Φ K.ρ).int.toNat : Int) = (l.d K.Φ K.ρ).int := Int.toNat_of_nonneg b1
  have el2 : ((hh.d K.Φ K.ρ).int.toNat : Int) = (hh.d K.Φ K.ρ).int := Int.toNat_of_nonneg (by omega)
  have r1 : (lo.map a.eval = none ∧ (l.d K.Φ K.ρ).int.toNat = 0) ∨ ∃ k, lo.map a.eval = some (.int k ((l.d K.Φ K.ρ).int.toNat : Int)) := by
   rcases optInt_spec hG h hlo with ⟨h1, rfl⟩ | ⟨k, h1⟩
   ·exact .inl ⟨h1, rfl⟩
   ·exact .inr ⟨k, by rw [el1]; exact h1⟩
  have r2 : (hi.map a.eval = none ∧ (hh.d K.Φ K.ρ).int.toNat = len) ∨ ∃ k, hi.map a.eval = some (.int k ((hh.d K.Φ K.ρ).int.toNat : Int)) := by
   rcases optInt_spec hG h hhi with ⟨h1, rfl⟩ | ⟨k, h1⟩
   ·exact .inl ⟨h1, by simp only [X.d, Op1.ev, D.int_i, hlen]; exact tn0 _⟩
   ·exact .inr ⟨k, by rw [el2]; exact h1⟩
  have hrun := run_sub (P := P) (w := w) hu hsz (q := q) (len := len) (cap := cap) r1 r2 (by omega) (by omega)
  rw [hv] at hrep
  have hres := rep_sub hrep (l := (l.d K.Φ K.ρ).int.toNat) (r := (hh.d K.Φ K.ρ).int.toNat) (by omega) (by omega)
  refine Does.val (w' := w) ?_ ⟨gh1, by rw [← hsl]; exact hI, hres⟩
  simp only [execOp, ho, hv, Option.map_none, Sem.run_bind, hrun, Result.andThen_ok, Sem.run_pure]
 have bnd : ∀ {s l hh : X}, (∀ n ∈ [Nd.c (leX (.n 0) l), Nd.c (leX l hh), Nd.c (leX hh (.un .len s))], n.holds pre K.Φ K.ρ) → (0 : Int) ≤ (l.d K.Φ K.ρ).int ∧ (l.d K.Φ K.ρ).int ≤ (hh.d K.Φ K.ρ).int ∧ (hh.d K.Φ K.ρ).int ≤ (s.d K.Φ K.ρ).lst.length := by
  intro s l hh hn
  have b1 := leX_spec (hn (Nd.c (leX (.n 0) l)) (by simp))
  have b2 := leX_spec (hn (Nd.c (leX l hh)) (by simp))
  have b3 := leX_spec (hn (Nd.c (leX hh (.un .len s))) (by simp))
  exact ⟨b1, b2, b3⟩
 unfold effSlice at he
 split at he
 ·rename_i el hu hmx
  have hmx' : mx = none := by cases mx <;> simp_all
  split at he
  ·rename_i e cts s hs
   rw [hs] at hrx
   split at he
   ·rename_i l hh hlo hhi
    split at he
    ·rename_i hcond
     have he := RM.run_done he; subst he
     simp only [Bool.and_eq_true] at hcond
     exact core (σ' := σ) h rfl hu hmx' hrx (sizeEq_spec hcond.1) hlo hhi (bnd hn)
    ·exact (RM.run_fail he).elim
   ·exact (RM.run_fail he).elim
  ·rename_i r ver hs
   rw [hs] at hrx
   obtain ⟨R, hR, he⟩ := RM.run_res he
   split at he
   ·rename_i e cts s ver' frz hk
    split at he
    ·rename_i l hh hlo hhi
     split at he
     ·rename_i hcond
      have he := RM.run_done he; subst he
      simp only [Bool.and_eq_true, beq_iff_eq] at hcond
      obtain ⟨⟨⟨hg1, rfl⟩, hse⟩, hc0⟩ := hcond
      have hon : R.on K := entails_sound _ _ hg1 hG
      have hok := h.res r R hR hon
      rw [hk] at hok
      obtain ⟨_, _, _, h3⟩ := hrx
      have hv := h3 hok.1
      cases frz with
      | true =>
       obtain ⟨hvr0, hver1, _, hok⟩ := hok
       simp only [if_true] at hok
       rw [← hv] at hok
       have := core (σ' := σ) h rfl hu hmx' hok (sizeEq_spec hse) hlo hhi (bnd hn)
       exact this
      | false =>
       obtain ⟨gh1, hI1, hle1, b1, r1, v1, f1, g1⟩ := freeze_all h (wr := [(r, ⟨R.g, .row e cts s ver true⟩)]) (fun p hp => by
        simp only [List.mem_singleton] at hp
        subst hp
        exact ⟨R, hR, hon, .inr ⟨e, cts, s, ver, hk, rfl⟩⟩)
       have hx1 : (⟨σ.slots, setAll σ.res [(r, ⟨R.g, .row e cts s ver true⟩)]⟩ : St).has r ⟨R.g, .row e cts s ver true⟩ := by
        have hlt : r < σ.res.length := (List.getElem?_eq_some_iff.1 hR).1
        simp [St.has, setAll, hlt]
       obtain ⟨_, _, _, hok1⟩ := hI1.res r _ hx1 hon
       simp only [if_true] at hok1
       rw [r1, ← hv] at hok1
       exact core hI1 rfl hu hmx' hok1 (sizeEq_spec hse) hlo hhi (bnd hn)
     ·exact (RM.run_fail he).elim
    ·exact (RM.run_fail he).elim
   ·exact (RM.run_fail he).elim
  ·exact (RM.run_fail he).elim
 ·exact (RM.run_fail he).elim
theorem repL_oneCell {F : Nat → Prop} : ∀ {cts : List CT} {vs : List Value} {ds : List D}, RepL w F cts vs ds → ∀ u ∈ vs, u.oneCell' = true
 | [], [], [], _ => by simp
 | _ :: _, v :: vs, _ :: _, h => fun u hu => by
  cases hu with
  | head => exact h.1.oneCell
  | tail _ hu => exact repL_oneCell h.2 u hu
theorem repL_get {F : Nat → Prop} : ∀ {cts : List CT} {vs : List Value} {ds : List D}, RepL w F cts vs ds → ∀ j ct, cts[j]? = some ct → Rep w F ct (vs.getD j undef) (ds.getD j default)
 | [], [], [], _, j, ct, hj => by simp at hj
 | _ :: _, v :: vs, _ :: _, h, 0, ct, hj => by simp at hj; subst hj; simpa using h.1
 | _ :: _, v :: vs, _ :: _, h, j + 1, ct, hj => by simpa using repL_get h.2 j ct (by simpa using hj)
theorem rowRep_one {F : Nat → Prop} {cts : List CT} {vs : List Value} {ds : List D} (h : RepL w F cts vs ds) : RowRep w F cts [ds] vs := by
 intro i hi
 have : i = 0 := by simp at hi; omega
 subst this
 exact ⟨(repL_length h).1, fun j ct hj => by simpa using repL_get h j ct hj⟩
theorem cellsOf_rel {s : SV} {cs : List SC} (h : cellsOf s = some cs) {v : Value} (hs : SV.rel K.Φ K.ρ w gh s v) : ∃ us, relS K.Φ K.ρ w gh cs us ∧ ((∀ u ∈ us, u.oneCell' = true) → v.cells.toList = us) := by
 unfold cellsOf at h
 split at h
 ·simp only [si0] at h
  subst h
  refine ⟨[v], ⟨hs, trivial⟩, fun h1 => ?_⟩
  have h1 := h1 v (by simp)
  have : v.cells = #[v] := by cases v <;> first | rfl | cases h1
  rw [this]
 ·simp only [si0] at h
  subst h
  obtain ⟨us, rfl, hr⟩ := hs
  exact ⟨us.toList, hr, fun _ => rfl⟩
 ·cases h
theorem rowsArg_ok (h : Inv K σ gh a w) {G : X} (hG : (G.d K.Φ K.ρ).bool = true) {cts : List CT} : ∀ {ps : List (Nat × SV)} {k : X → List (Nat × Res) → RM} {eo : EO} {vs : List Value},
  (rowsArg G cts ps k).run σ.res = some eo → ps.length = vs.length → (∀ (j : Nat) p v, ps[j]? = some p → vs[j]? = some v → SV.rel K.Φ K.ρ w gh p.2 v) →
  ∃ e wr, (k e wr).run σ.res = some eo ∧ (∀ v ∈ vs, v.cells.size = cts.length) ∧
   CellOk K σ w gh true wr (fun F' => ∃ xs, e.d K.Φ K.ρ = .l xs ∧ xs.length = vs.length ∧ RowRep w F' cts xs (vs.flatMap fun v => v.cells.toList))
 | [], k, eo, vs, he, hl, hr => by
  cases vs with
  | cons => simp at hl
  | nil => exact ⟨.lnil, [], he, by simp, by simp, ⟨[], rfl, rfl, fun i hi => by simp at hi⟩, fun _ _ _ _ => ⟨[], rfl, rfl, fun i hi => by simp at hi⟩⟩
 | p :: ps, k, eo, vs, he, hl, hr => by
  cases vs with
  | nil => simp at hl
  | cons v vs =>
   unfold rowsArg at he
   split at he
   ·rename_i cs hcs
    obtain ⟨us, hrel, hus⟩ := cellsOf_rel hcs (hr 0 p v rfl rfl)
    obtain ⟨es, wr, he1, h1⟩ := cellsArg_ok h hG he hrel
    obtain ⟨e, wr', he2, hsz, h2⟩ := rowsArg_ok h hG he1 (by simpa using hl) (fun j p v hp hv => hr (j + 1) p v (by simpa using hp) (by simpa using hv))
    have hvc : v.cells.toList = us := hus (repL_oneCell h1.2.1)
    have hul := (repL_length h1.2.1).2
    refine ⟨.lcons (consX es) e, wr ++ wr', he2, ?_, h1.append h2 fun F r1 r2 => ?_⟩
    ·intro u hu
     cases hu with
     | head => rw [← Array.length_toList, hvc, hul]
     | tail _ hu => exact hsz u hu
    ·obtain ⟨xs, hd, hxl, hrep⟩ := r2
     refine ⟨es.map (X.d K.Φ K.ρ) :: xs, by simp only [X.d, hd, D.lst_l, ds_consX], by simp [hxl], ?_⟩
     have := rowRep_append (rowRep_one r1) (by simp [hul]) hrep
     simpa [hvc] using this
   ·exact (RM.run_fail he).elim
theorem setAll_append (l : List (Option Res)) : ∀ (wr wr' : List (Nat × Res)), setAll l (wr ++ wr') = setAll (setAll l wr) wr' := by
 intro wr
 induction wr generalizing l with
 | nil => intro wr'; rfl
 | cons p wr ih => intro wr'; exact ih _ wr'
theorem setAll_length (l : List (Option Res)) : ∀ (wr : List (Nat × Res)), (setAll l wr).length = l.length := by
 intro wr
 induction wr generalizing l with
 | nil => rfl
 | cons p wr ih => simp [setAll, ih]
theorem partsAt_map : ∀ {α : Type} {k : Nat} {ps : List (Nat × α)} {f : α → SV} {g : α → Value}, partsAt k (ps.map fun p => (p.1, f p.2)) = true → ps.map (fun p => (p.1, g p.2)) = ((ps.map fun p => g p.2).zipIdx k).map fun x => (x.2, x.1)
 | _, _, [], _, _, _ => rfl
 | _, k, p :: ps, f, g, h => by
  simp only [List.map_cons, partsAt, Bool.and_eq_true, beq_iff_eq] at h
  simp only [List.map_cons, List.zipIdx_cons, h.1]
  rw [partsAt_map h.2]
theorem eff_buildSlice (h : Inv K σ gh a w) {t : TypeId} {n : Nat} {ps : Array (Nat × Operand)} (ho : o.op = .buildSlice t n ps) {G : X} (hG : (G.d K.Φ K.ρ).bool = true) {id : Nat} (hid : σ.res[id]? = some none) {eo : EO}
    (he : (effBuildSlice P G id t n (ps.toList.map fun p => (p.1, strip G (σ.opd p.2)))).run σ.res = some eo) : EffOk K σ P o a w eo := by
  have hidl : id < σ.res.length := (List.getElem?_eq_some_iff.1 hid).1
  unfold effBuildSlice at he
  split at he
  · rename_i e hu
    split at he
    · rename_i cts hcts
      split at he
      · rename_i hcond
        simp only [Bool.and_eq_true, beq_iff_eq, Bool.not_eq_true', beq_eq_false_iff_ne] at hcond
        obtain ⟨⟨⟨⟨⟨hse, hc0⟩, hpl⟩, hpa⟩, hsz⟩, hzs⟩ := hcond
        have hsz := Nat.le_of_ble_eq_true hsz
        have hpos : 0 < cts.length := Nat.pos_of_ne_zero hc0
        obtain ⟨content, wr, he, hcells, hok⟩ := rowsArg_ok h hG he (vs := ps.toList.map fun p => a.eval p.2) (by simp) (fun j p v hp hv => by
          simp only [List.getElem?_map, Option.map_eq_some_iff] at hp hv
          obtain ⟨q, hq, rfl⟩ := hp
          obtain ⟨q', hq', rfl⟩ := hv
          obtain rfl := Option.some.inj (hq.symm.trans hq')
          exact strip_rel hG (h.opd q.2))
        have he := RM.run_done he; subst he
        obtain ⟨gh1, hI1, hle1, b1, r1, v1, f1, g1⟩ := freeze_all h hok.1
        obtain ⟨xs, hd, hxl, hrep⟩ := hok.2.2 rfl gh1.F hle1.F f1
        cases hzc : zeroCells P e with
        | none => rw [hzc] at hzs; cases hzs
        | some zc =>
        obtain ⟨z, hz, _, _⟩ := zero_rel (K := K) (gh := gh) hzc w
        have hvl : (ps.toList.map fun p => a.eval p.2).length = n := by simpa using hpl
        have hflat : ((ps.toList.map fun p => a.eval p.2).flatMap fun v => v.cells.toList).length = n * cts.length := by
          have : ∀ vs : List Value, (∀ v ∈ vs, v.cells.size = cts.length) → (vs.flatMap fun v => v.cells.toList).length = vs.length * cts.length := by
            intro vs
            induction vs with
            | nil => simp
            | cons v vs ih => intro hv; rw [List.flatMap_cons, List.length_append, ih (fun u hu => hv u (by simp [hu])), Array.length_toList, hv v (by simp), List.length_cons, Nat.add_mul]; omega
          rw [this _ hcells, hvl]
        have hrun : (Instr.buildSlice t n (ps.map fun (x : Nat × Operand) => (x.1, a.eval x.2))).run P w =
            .ok (.slice (some ⟨w.heap.size, 0, none⟩) n n) (w.alloc (.cells ((ps.toList.map fun p => a.eval p.2).flatMap fun v => v.cells.toList).toArray e)) := by
          have hmap : (ps.map fun (x : Nat × Operand) => (x.1, a.eval x.2)).toList = ((ps.toList.map fun p => a.eval p.2).zipIdx 0).map fun x => (x.2, x.1) := by
            rw [Array.toList_map]
            exact partsAt_map (f := fun x => strip G (σ.opd x)) (g := a.eval) hpa
          have hf := Great.fill_whole hpos (ps.toList.map fun p => a.eval p.2) ((Array.range (n * cts.length)).map (z.cells[· % z.cells.size]!)) hcells (by rw [hvl]; simp)
          have hbig : ¬ (n * cts.length > 2 ^ 24) := by omega
          by_cases h0 : n * cts.length = 0
          · have hn0 : n = 0 := by
              rcases Nat.mul_eq_zero.1 h0 with h1 | h1
              · exact h1
              · omega
            subst hn0
            have hnil : ps.toList = [] := by simpa using hpl
            simp only [Instr.buildSlice, Sem.run_bind, run_underlying hu, Result.andThen_ok, run_sizeT (sizeEq_spec hse)]
            have hps : ps = #[] := by apply Array.ext'; simpa using hnil
            subst hps
            rw [if_neg hbig, if_pos h0]
            have hz0 : Array.range (0 * cts.length) = #[] := by rw [Nat.zero_mul]; rfl
            simp only [Sem.run_bind, Sem.run_pure, Result.andThen_ok, hz0, List.map_toArray, newRow]
            simp [Instr.fill]
          · simp only [Instr.buildSlice, Sem.run_bind, run_underlying hu, Result.andThen_ok, run_sizeT (sizeEq_spec hse), hmap]
            rw [if_neg hbig, if_neg h0]
            simp only [Sem.run_bind, Sem.run_pure, hz, Result.andThen_ok, hf, newRow]
            simp
        have hown : (w.alloc (.cells ((ps.toList.map fun p => a.eval p.2).flatMap fun v => v.cells.toList).toArray e)).ownsRow 0 e cts.length (.slice (some ⟨w.heap.size, 0, none⟩) n n) n ((ps.toList.map fun p => a.eval p.2).flatMap fun v => v.cells.toList) := by
          have := World.ownsRow_lit (base := 0) (e := e) (size := cts.length) w ((ps.toList.map fun p => a.eval p.2).flatMap fun v => v.cells.toList).toArray n (Nat.zero_le _) (by
            have : n ≤ n * cts.length := Nat.le_mul_of_pos_right _ hpos
            simp only [maxLen]; omega) (by simpa using hflat)
          simpa using this
        have hxn : xs.length = n := by rw [hxl, hvl]
        obtain ⟨gh', hI, hle, hrv, hvr, hF⟩ := row_step hI1 (r := id) (by simpa [setAll_length] using hidl) (ob := none) (fun b hb => by cases hb) (ver := 1) (by rw [v1, new_ver0 h hid]; omega) hG (World.grownBy_alloc w _ none) (content := content)
          (xs := xs) hd (by rw [hxn]; exact .of hown) hrep (fun b hb => .inr (by
            have hb := ownB_own hb
            simp only [Value.ownBlock, si0] at hb
            subst hb
            exact ⟨rfl, by simp⟩))
        refine Does.val (v := _) (w' := w.alloc (.cells ((ps.toList.map fun p => a.eval p.2).flatMap fun v => v.cells.toList).toArray e)) ?_ ⟨gh', by rw [setAll_append]; simpa [setAll] using hI, ⟨_, _, _, rfl⟩, Nat.le_refl _, by rw [hvr]; exact Nat.le_refl _, fun _ => hrv.symm⟩
        simp only [execOp, ho, Sem.run_bind, hrun, Result.andThen_ok, Sem.run_pure]
      · exact (RM.run_fail he).elim
    · exact (RM.run_fail he).elim
  · exact (RM.run_fail he).elim
end
end Go.RV
namespace Go.RV
open Go.RowKit
section
variable {P : Program} {K : Ctx} {σ : St} {gh : Gh} {a : Act} {w : World} {sg : FuncId → Option Sig}
def Gh.cut (gh : Gh) (hs : List (Option Res)) : Gh where
 β := fun r => if listed hs r then gh.β r else none
 rv := gh.rv
 vr := fun r => match hs.getD r none with
  | some ⟨_, .row ..⟩ => 1
  | _ => 0
 F := gh.F
def Binds (Φ : FuncId → List D → List D) (ρ ρ' : List D) (l : List (Nat × X)) : Prop := ∀ p ∈ l, ρ'.getD p.1 default = p.2.d Φ ρ
theorem Binds.left {Φ : FuncId → List D → List D} {ρ ρ' : List D} {l m : List (Nat × X)} (h : Binds Φ ρ ρ' (l ++ m)) : Binds Φ ρ ρ' l := fun p hp => h p (List.mem_append_left _ hp)
theorem Binds.right {Φ : FuncId → List D → List D} {ρ ρ' : List D} {l m : List (Nat × X)} (h : Binds Φ ρ ρ' (l ++ m)) : Binds Φ ρ ρ' m := fun p hp => h p (List.mem_append_right _ hp)
def RowsAt (hs rs : List (Option Res)) (gh : Gh) : Prop :=
 ∀ r, listed hs r = true → ∀ x, rs.getD r none = some x → ∀ ety cts c ver z, x.k = .row ety cts c ver z → gh.vr r = ver ∧ (gh.cut hs).vr r = 1
theorem matchSC_rel {hs rs : List (Option Res)} {ρ ρ' : List D} {Φ : FuncId → List D → List D} (hrows : RowsAt hs rs gh) : ∀ {s t : SC} {l : List (Nat × X)}, matchSC hs rs s t = some l → Binds Φ ρ ρ' l → ∀ {v : Value}, SC.rel Φ ρ w gh t v → SC.rel Φ ρ' w (gh.cut hs) s v := by
 intro s t l hm hb v hr
 unfold matchSC at hm
 split at hm
 ·trivial
 ·simp only [si0] at hm
  subst hm
  have := hb _ List.mem_cons_self
  obtain ⟨rfl, _⟩ := hr
  show Rep w gh.F _ _ _
  simp only [X.d] at this ⊢
  rw [this]
  exact .nil
 ·simp only [si0] at hm
  subst hm
  have := hb _ List.mem_cons_self
  obtain ⟨rfl, _⟩ := hr
  show Rep w gh.F _ _ _
  simp only [X.d, X.ds] at this ⊢
  rw [this]
  exact .pnz
 ·skip
  split at hm
  ·rename_i hc
   have := CT.beq_eq _ _ hc
   subst this
   simp only [si0] at hm
   subst hm
   have := hb _ List.mem_cons_self
   show Rep w gh.F _ _ _
   simp only [X.d] at this ⊢
   rw [this]
   exact hr
  ·cases hm
 ·split at hm
  ·rename_i hc
   simp only [Bool.and_eq_true, beq_iff_eq] at hc
   obtain ⟨⟨rfl, rfl⟩, hl⟩ := hc
   obtain ⟨b, h1, h2⟩ := hr
   exact ⟨b, by simp only [Gh.cut, hl, if_true]; exact h1, h2⟩
  ·cases hm
 ·split at hm
  ·rename_i hc
   simp only [Bool.and_eq_true, beq_iff_eq] at hc
   obtain ⟨⟨rfl, rfl⟩, hl⟩ := hc
   obtain ⟨vs, h1, h2, h3⟩ := hr
   refine ⟨vs, h1, h2, fun j c hc => ?_⟩
   obtain ⟨b, h4, h5⟩ := h3 j c hc
   have := List.all_eq_true.1 hl c (List.mem_of_getElem? hc)
   exact ⟨b, by simp only [Gh.cut, this, if_true]; exact h4, h5⟩
  ·cases hm
 ·split at hm
  ·rename_i hc
   simp only [Bool.and_eq_true, beq_iff_eq] at hc
   obtain ⟨⟨rfl, rfl⟩, hl⟩ := hc
   split at hm
   ·rename_i ety cts c ver' z hx
    split at hm
    ·rename_i hv
     simp only [beq_iff_eq] at hv
     subst hv
     obtain ⟨h1, h2⟩ := hrows _ hl _ hx _ _ _ _ _ rfl
     obtain ⟨h0, h3, h4, h5⟩ := hr
     exact ⟨h0, Nat.le_refl _, by rw [h2]; exact Nat.le_refl _, fun _ => h5 h1⟩
    ·cases hm
   ·cases hm
  ·cases hm
 ·split at hm
  ·rename_i hc
   simp only [Bool.and_eq_true, beq_iff_eq] at hc
   obtain ⟨⟨⟨⟨rfl, rfl⟩, rfl⟩, rfl⟩, hl⟩ := hc
   split at hm
   ·rename_i ety cts c ver' z hx
    split at hm
    ·rename_i hv
     simp only [beq_iff_eq] at hv
     subst hv
     simp only [si0] at hm
     subst hm
     have he := hb _ List.mem_cons_self
     obtain ⟨h1, h2⟩ := hrows _ hl _ hx _ _ _ _ _ rfl
     obtain ⟨h0, h3, h4, h5⟩ := hr
     refine ⟨h0, Nat.le_refl _, by rw [h2]; exact Nat.le_refl _, fun _ => ?_⟩
     simp only [X.d] at he ⊢
     rw [he]
     exact h5 h1
    ·cases hm
   ·cases hm
  ·cases hm
 ·cases hm
theorem matchSCs_rel {hs rs : List (Option Res)} {ρ ρ' : List D} {Φ : FuncId → List D → List D} (hrows : RowsAt hs rs gh) : ∀ {s t : List SC} {l : List (Nat × X)}, matchSCs hs rs s t = some l → Binds Φ ρ ρ' l → ∀ {v : List Value}, relS Φ ρ w gh t v → relS Φ ρ' w (gh.cut hs) s v
 | [], [], l, hm, hb, v, hr => by
  cases v with
  | nil => trivial
  | cons => exact hr.elim
 | a :: as, b :: bs, l, hm, hb, v, hr => by
  cases v with
  | nil => exact hr.elim
  | cons v vs =>
   unfold matchSCs at hm
   split at hm
   ·rename_i l1 l2 h1 h2
    simp only [si0] at hm
    subst hm
    exact ⟨matchSC_rel hrows h1 hb.left hr.1, matchSCs_rel hrows h2 hb.right hr.2⟩
   ·cases hm
 | [], _ :: _, l, hm, _, _, _ => by simp [matchSCs] at hm
 | _ :: _, [], l, hm, _, _, _ => by simp [matchSCs] at hm
theorem matchSV_rel {hs rs : List (Option Res)} {ρ ρ' : List D} {Φ : FuncId → List D → List D} (hrows : RowsAt hs rs gh) : ∀ {s t : SV} {l : List (Nat × X)}, matchSV hs rs s t = some l → Binds Φ ρ ρ' l → ∀ {v : Value}, SV.rel Φ ρ w gh t v → SV.rel Φ ρ' w (gh.cut hs) s v := by
 intro s t l hm hb v hr
 unfold matchSV at hm
 split at hm
 ·trivial
 ·exact matchSC_rel hrows hm hb hr
 ·obtain ⟨vs, h1, h2⟩ := hr
  exact ⟨vs, h1, matchSCs_rel hrows hm hb h2⟩
 ·cases hm
theorem matchSVs_get {hs rs : List (Option Res)} : ∀ {s t : List SV} {l : List (Nat × X)}, matchSVs hs rs s t = some l → s.length = t.length ∧ ∀ (n : Nat) a b, s[n]? = some a → t[n]? = some b → ∃ l', matchSV hs rs a b = some l' ∧ ∀ p ∈ l', p ∈ l
 | [], [], l, hm => ⟨rfl, by simp⟩
 | a :: as, b :: bs, l, hm => by
  unfold matchSVs at hm
  split at hm
  ·rename_i l1 l2 h1 h2
   simp only [si0] at hm
   subst hm
   obtain ⟨i1, i2⟩ := matchSVs_get h2
   refine ⟨by simp [i1], fun n x y hx hy => ?_⟩
   cases n with
   | zero =>
    simp only [List.getElem?_cons_zero, si0] at hx hy
    subst hx hy
    exact ⟨l1, h1, fun p hp => List.mem_append_left _ hp⟩
   | succ n =>
    obtain ⟨l', h3, h4⟩ := i2 n x y (by simpa using hx) (by simpa using hy)
    exact ⟨l', h3, fun p hp => List.mem_append_right _ (h4 p hp)⟩
  ·cases hm
 | [], _ :: _, l, hm => by simp [matchSVs] at hm
 | _ :: _, [], l, hm => by simp [matchSVs] at hm
theorem matchRess_get {hs rs : List (Option Res)} : ∀ {s t : List (Option Res)} {l : List (Nat × X)}, matchRess hs rs s t = some l → s.length ≤ t.length ∧ ∀ (r : Nat) x, s[r]? = some (some x) → ∃ y l', t[r]? = some (some y) ∧ isTt x.g = true ∧ isTt y.g = true ∧ matchRK hs rs x.k y.k = some l' ∧ ∀ p ∈ l', p ∈ l
 | [], t, l, hm => ⟨by simp, by simp⟩
 | none :: as, b :: bs, l, hm => by
  unfold matchRess at hm
  obtain ⟨i1, i2⟩ := matchRess_get hm
  refine ⟨by simpa using i1, fun r x hx => ?_⟩
  cases r with
  | zero => simp at hx
  | succ r => simpa using i2 r x (by simpa using hx)
 | some a :: as, some b :: bs, l, hm => by
  unfold matchRess at hm
  split at hm
  ·rename_i hc
   simp only [Bool.and_eq_true] at hc
   split at hm
   ·rename_i l1 l2 h1 h2
    simp only [si0] at hm
    subst hm
    obtain ⟨i1, i2⟩ := matchRess_get h2
    refine ⟨by simpa using i1, fun r x hx => ?_⟩
    cases r with
    | zero =>
     simp only [List.getElem?_cons_zero, si0] at hx
     subst hx
     exact ⟨b, l1, rfl, hc.1, hc.2, h1, fun p hp => List.mem_append_left _ hp⟩
    | succ r =>
     obtain ⟨y, l', h3, h4, h5, h6, h7⟩ := i2 r x (by simpa using hx)
     exact ⟨y, l', by simpa using h3, h4, h5, h6, fun p hp => List.mem_append_right _ (h7 p hp)⟩
   ·cases hm
  ·cases hm
 | some a :: as, none :: bs, l, hm => by simp [matchRess] at hm
 | some a :: as, [], l, hm => by simp [matchRess] at hm
 | none :: as, [], l, hm => by simp [matchRess] at hm
theorem matchRK_inv {hs rs : List (Option Res)} {k k' : RK} {l : List (Nat × X)} (h : matchRK hs rs k k' = some l) :
  (∃ e cs cs' z, k = .box e cs z ∧ k' = .box e cs' z ∧ matchSCs hs rs cs cs' = some l) ∨ (∃ e cts i x v z, k = .row e cts (.var i) 1 z ∧ k' = .row e cts x v z ∧ l = [(i, x)]) := by
 cases k with
 | box e cs z =>
  cases k' with
  | row => simp [matchRK] at h
  | box e' cs' z' =>
   simp only [matchRK] at h
   split at h
   ·rename_i hc
    simp only [Bool.and_eq_true, beq_iff_eq] at hc
    obtain ⟨rfl, rfl⟩ := hc
    exact .inl ⟨_, _, _, _, rfl, rfl, h⟩
   ·cases h
 | row e cts c one z =>
  cases k' with
  | box => cases c <;> simp [matchRK] at h
  | row e' cts' x v z' =>
   cases c with
   | var i =>
    simp only [matchRK] at h
    split at h
    ·rename_i hc
     simp only [Bool.and_eq_true, beq_iff_eq] at hc
     obtain ⟨⟨⟨rfl, hcc⟩, rfl⟩, rfl⟩ := hc
     have := CT.beqs_eq _ _ hcc
     subst this
     simp only [si0] at h
     exact .inr ⟨_, _, _, _, _, _, rfl, rfl, h.symm⟩
    ·cases h
   | _ => simp [matchRK] at h
theorem look_mem : ∀ {l : List (Nat × X)}, oneEach l = true → ∀ p ∈ l, look l p.1 = some p.2
 | [], _, p, hp => by cases hp
 | q :: l, h, p, hp => by
  simp only [oneEach, Bool.and_eq_true] at h
  cases hp with
  | head => simp [look]
  | tail _ hp =>
   have := List.all_eq_true.1 h.1 p hp
   simp only [Bool.not_eq_true', beq_eq_false_iff_ne, ne_eq] at this
   unfold look
   rw [if_neg (by simp; exact fun e => this e.symm)]
   exact look_mem h.2 p hp
theorem looks_get {l : List (Nat × X)} : ∀ {n i : Nat} {xs : List X}, looks l i n = some xs → xs.length = n ∧ ∀ j, j < n → look l (i + j) = xs[j]?
 | 0, i, xs, h => by
  simp only [looks, si0] at h
  subst h
  exact ⟨rfl, fun j hj => by omega⟩
 | n + 1, i, xs, h => by
  unfold looks at h
  split at h
  ·rename_i x ys h1 h2
   simp only [si0] at h
   subst h
   obtain ⟨i1, i2⟩ := looks_get h2
   refine ⟨by simp [i1], fun j hj => ?_⟩
   cases j with
   | zero => simpa using h1
   | succ j =>
    have := i2 j (by omega)
    rw [List.getElem?_cons_succ, ← this]
    congr 1
    omega
  ·cases h
structure MatchOk (hd : St) (nv : Nat) (σ : St) (args : List X) (l m : List (Nat × X)) : Prop where
 slots : matchSVs hd.res σ.res hd.slots σ.slots = some l
 ress : matchRess hd.res σ.res hd.res σ.res = some m
 len : args.length = nv
 bind : ∀ p ∈ l ++ m, args.getD p.1 .nil = p.2 ∧ p.1 < nv
theorem match_ok {hd : St} {nv : Nat} {args : List X} (h : matchHead hd nv σ = some args) : ∃ l m, MatchOk hd nv σ args l m := by
 unfold matchHead at h
 split at h
 ·rename_i l m h1 h2
  split at h
  ·rename_i hc
   simp only [Bool.and_eq_true] at hc
   obtain ⟨i1, i2⟩ := looks_get h
   refine ⟨l, m, h1, h2, i1, fun p hp => ?_⟩
   have hlt : p.1 < nv := by have := List.all_eq_true.1 hc.2 p hp; exact Nat.le_of_ble_eq_true this
   have h3 := look_mem hc.1 p hp
   have h4 := i2 p.1 hlt
   rw [Nat.zero_add, h3] at h4
   exact ⟨by simp [List.getD, ← h4], hlt⟩
  ·cases h
 ·cases h
theorem listed_get {hs : List (Option Res)} {r : Nat} (h : listed hs r = true) : ∃ x, hs[r]? = some (some x) ∧ hs.getD r none = some x := by
 unfold listed at h
 cases hx : hs.getD r none with
 | none => rw [hx] at h; cases h
 | some x =>
  refine ⟨x, ?_, rfl⟩
  simp only [List.getD] at hx
  cases hy : hs[r]? with
  | none => rw [hy] at hx; cases hx
  | some y => rw [hy] at hx; simp at hx; rw [hx]
theorem listed_of {hs : List (Option Res)} {r : Nat} {x : Res} (h : hs[r]? = some (some x)) : listed hs r = true := by simp [listed, List.getD, h]
theorem MatchOk.rows {hd : St} {nv : Nat} {args : List X} {l m : List (Nat × X)} (h : MatchOk hd nv σ args l m) (hI : Inv K σ gh a w) : RowsAt hd.res σ.res gh := by
 intro r hl x hx ety cts c ver z hk
 obtain ⟨y, h1, h2⟩ := listed_get hl
 obtain ⟨x', l', h3, _, h5, h6, _⟩ := (matchRess_get h.ress).2 r y h1
 have : x = x' := by simp only [List.getD, h3] at hx; simpa using hx.symm
 subst this
 have hok := hI.res r x h3 (isTt_sound h5)
 rw [hk] at hok h6
 refine ⟨hok.1, ?_⟩
 simp only [Gh.cut, h2]
 obtain ⟨gy, ky⟩ := y
 cases ky with
 | row => rfl
 | box => simp [matchRK] at h6
theorem match_inv (hI : Inv K σ gh a w) {hd : St} {nv : Nat} {args : List X} (hm : matchHead hd nv σ = some args) {K' : Ctx} (hΦ : K'.Φ = K.Φ) (hρ : K'.ρ = args.map (X.d K.Φ K.ρ)) (hgh : K'.gh0 = gh.cut hd.res)
  (kept : ∀ n, K'.wok n = false → a.tmps.getD n undef = K'.a0.tmps.getD n undef) (os : w.os = K'.w0.os) (tape : w.tape = K'.w0.tape) (output : w.output = K'.w0.output) (grow : K'.w0.heap.size ≤ w.heap.size)
  (pr : ∀ b, K'.Pr b → w.heap[b]? = K'.w0.heap[b]?) (prlt : ∀ b, K'.Pr b → b < K'.w0.heap.size) (own : ∀ r x b, listed hd.res r = true → σ.has r x → x.on K → x.k.live gh r = some b → ¬ K'.Pr b) :
  Inv K' hd (gh.cut hd.res) a w := by
 obtain ⟨l, m, hk⟩ := match_ok hm
 have hrows := hk.rows hI
 obtain ⟨s1, s2⟩ := matchSVs_get hk.slots
 obtain ⟨r1, r2⟩ := matchRess_get hk.ress
 have hb : Binds K.Φ K.ρ K'.ρ (l ++ m) := by
  intro p hp
  obtain ⟨h1, h2⟩ := hk.bind p hp
  have hlt : p.1 < args.length := by rw [hk.len]; exact h2
  rw [hρ]
  simp only [List.getD, List.getElem?_map, List.getElem?_eq_getElem hlt, Option.map_some, Option.getD_some] at h1 ⊢
  rw [h1]
 have live : ∀ r x, hd.has r x → ∃ y, σ.has r y ∧ y.on K ∧ x.k.live (gh.cut hd.res) r = y.k.live gh r ∧ x.on K' ∧ ∃ l', matchRK hd.res σ.res x.k y.k = some l' ∧ ∀ p ∈ l', p ∈ m := by
  intro r x hx
  obtain ⟨y, l', h1, h2, h3, h4, h5⟩ := r2 r x hx
  refine ⟨y, h1, isTt_sound h3, ?_, isTt_sound h2, l', h4, h5⟩
  have hl := listed_of hx
  rcases matchRK_inv h4 with ⟨e, cs, cs', z, e1, e2, _⟩ | ⟨e, cts, i, x', v, z, e1, e2, _⟩
  ·rw [e1, e2]
   cases z <;> simp [RK.live, Gh.cut, hl]
  ·rw [e1, e2]
   cases z <;> simp [RK.live, Gh.cut]
 refine ⟨hI.defers, by rw [hI.size, s1], fun n s hs => ?_, kept, os, tape, output, grow, pr, prlt, hI.Flt, fun r b hb' => ?_, fun r hr => ?_, fun r x hx hon => ?_, fun r x b hx hon hl => ?_, fun r x r' x' b hx _ hx' _ hl hl' => ?_, by rw [hgh]; exact Gh.le.refl _, fun b hb' => by rw [hgh]; exact .inl hb', hI.tab⟩
 ·have hlt : n < σ.slots.length := by rw [← s1]; exact (List.getElem?_eq_some_iff.1 hs).1
  obtain ⟨l', h1, h2⟩ := s2 n s σ.slots[n] hs (List.getElem?_eq_getElem hlt)
  rw [hΦ]
  exact matchSV_rel hrows h1 (fun p hp => hb p (List.mem_append_left _ (h2 p hp))) (hI.slot n _ (List.getElem?_eq_getElem hlt))
 ·simp only [Gh.cut] at hb'
  split at hb'
  ·rename_i hl
   obtain ⟨x, h1, _⟩ := listed_get hl
   obtain ⟨y, _, _, _, h5, _⟩ := live r x h1
   exact ⟨x, h1, h5⟩
  ·cases hb'
 ·have hl : listed hd.res r = true := by
   simp only [Gh.cut] at hr
   unfold listed
   cases hx : hd.res.getD r none with
   | none => rw [hx] at hr; simp at hr
   | some x => rfl
  obtain ⟨x, h1, _⟩ := listed_get hl
  obtain ⟨y, _, _, _, h5, _⟩ := live r x h1
  exact ⟨x, h1, h5⟩
 ·obtain ⟨y, h1, h2, _, _, l', h3, h4⟩ := live r x hx
  have hok := hI.res r y h1 h2
  have hl := listed_of hx
  rcases matchRK_inv h3 with ⟨e, cs, cs', z, e1, e2, h3⟩ | ⟨e, cts, i, x', v, z, e1, e2, rfl⟩
  ·rw [e2] at hok
   rw [e1]
   obtain ⟨b, cur, o1, o2, o3, o4⟩ := hok
   refine ⟨b, cur, by simp only [Gh.cut, hl, if_true]; exact o1, o2, ?_, o4⟩
   rw [hΦ]
   exact matchSCs_rel hrows h3 (fun p hp => hb p (List.mem_append_right _ (h4 p hp))) o3
  ·rw [e2] at hok
   have hval := hb (i, x') (List.mem_append_right _ (h4 _ List.mem_cons_self))
   obtain ⟨gx, kx⟩ := x
   simp only at e1
   subst e1
   have hx0 : hd.res.getD r none = some ⟨gx, .row e cts (.var i) 1 z⟩ := by
    unfold St.has at hx
    simp [List.getD, hx]
   obtain ⟨o1, o2, o3, o4⟩ := hok
   refine ⟨by simp only [Gh.cut, hx0], Nat.le_refl _, o3, ?_⟩
   simp only [X.d] at hval ⊢
   rw [hval]
   exact o4
 ·obtain ⟨y, h1, h2, h3, _⟩ := live r x hx
  rw [h3] at hl
  obtain ⟨o1, o2, o3⟩ := hI.own r y b h1 h2 hl
  exact ⟨own r y b (listed_of hx) h1 h2 hl, o2, o3⟩
 ·obtain ⟨y, h1, h2, h3, _⟩ := live r x hx
  obtain ⟨y', h1', h2', h3', _⟩ := live r' x' hx'
  rw [h3] at hl
  rw [h3'] at hl'
  exact hI.inj r y r' y' b h1 h2 h1' h2' hl hl'
end
end Go.RV
namespace Go.RV
open Go.RowKit
section
variable {P : Program} {K : Ctx} {σ : St} {gh : Gh} {a a' : Act} {w w' : World}
def setVars (ρ : List D) (wv : List Nat) (vals : List D) : List D := (List.range ρ.length).map fun i => match posIn i wv with
 | some j => vals.getD j default
 | none => ρ.getD i default
theorem setVars_length (ρ : List D) (wv : List Nat) (vals : List D) : (setVars ρ wv vals).length = ρ.length := by simp [setVars]
theorem setVars_get (ρ : List D) (wv : List Nat) (vals : List D) {i : Nat} (h : i < ρ.length) : (setVars ρ wv vals).getD i default = match posIn i wv with
 | some j => vals.getD j default
 | none => ρ.getD i default := by
 simp [setVars, List.getD, h]
theorem posIn_get : ∀ {wv : List Nat} {i j : Nat}, posIn i wv = some j → wv[j]? = some i
 | [], _, _, h => by simp [posIn] at h
 | k :: wv, i, j, h => by
  unfold posIn at h
  split at h
  ·rename_i e
   simp only [beq_iff_eq] at e
   simp only [si0] at h
   subst h e
   rfl
  ·cases hp : posIn i wv with
   | none => rw [hp] at h; cases h
   | some j' =>
    rw [hp] at h
    simp only [Option.map_some, si0] at h
    subst h
    simpa using posIn_get hp
structure LoopLe (L : LoopSig) (Pr : Nat → Prop) (gh gh' : Gh) : Prop where
 β : ∀ r b, gh.β r = some b → gh'.β r = some b
 F : ∀ b, gh.F b → gh'.F b
 Fn : ∀ b, gh'.F b → gh.F b ∨ ¬ Pr b
 rv : ∀ r g e cts i v z, L.head.has r ⟨g, .row e cts (.var i) v z⟩ → L.hv.contains i = false → gh'.rv r = gh.rv r
theorem LoopLe.refl {L : LoopSig} {Pr : Nat → Prop} (gh : Gh) : LoopLe L Pr gh gh := ⟨fun _ _ h => h, fun _ h => h, fun _ h => .inl h, fun _ _ _ _ _ _ _ _ _ => rfl⟩
theorem LoopLe.trans {L : LoopSig} {Pr : Nat → Prop} {g1 g2 g3 : Gh} (h : LoopLe L Pr g1 g2) (k : LoopLe L Pr g2 g3) : LoopLe L Pr g1 g3 :=
 ⟨fun r b hb => k.β r b (h.β r b hb), fun b hb => k.F b (h.F b hb), fun b hb => (k.Fn b hb).elim (h.Fn b) .inr, fun r g e cts i v z h1 h2 => (k.rv r g e cts i v z h1 h2).trans (h.rv r g e cts i v z h1 h2)⟩
def loopCtx (K : Ctx) (L : LoopSig) (args : List X) (σ : St) (gh : Gh) (a : Act) (w : World) : Ctx where
 Φ := K.Φ
 ρ := args.map (X.d K.Φ K.ρ)
 Pr := fun b => K.Pr b ∨ gh.F b ∨ ∃ r x, listed L.head.res r = false ∧ σ.has r x ∧ x.on K ∧ x.k.live gh r = some b
 w0 := w
 wok := fun n => L.ws.contains n
 a0 := a
 gh0 := gh.cut L.head.res
theorem loop_enter (h : Inv K σ gh a w) {L : LoopSig} {args : List X} (hm : matchHead L.head L.nv σ = some args) : Inv (loopCtx K L args σ gh a w) L.head (gh.cut L.head.res) a w := by
 refine match_inv h hm rfl rfl rfl (fun _ _ => rfl) rfl rfl rfl (Nat.le_refl _) (fun _ _ => rfl) (fun b hb => ?_) (fun r x b hl hx hon hlive hb => ?_)
 ·rcases hb with hb | hb | ⟨r, x, _, hx, hon, hl⟩
  ·exact Nat.lt_of_lt_of_le (h.prlt b hb) h.grow
  ·exact h.Flt b hb
  ·exact (h.own r x b hx hon hl).2.2
 ·obtain ⟨o1, o2, _⟩ := h.own r x b hx hon hlive
  rcases hb with hb | hb | ⟨r', x', hl', hx', hon', hlive'⟩
  ·exact o1 hb
  ·exact o2 hb
  ·have := h.inj r x r' x' b hx hon hx' hon' hlive hlive'
   subst this
   rw [hl] at hl'
   cases hl'
def afterGh (L : LoopSig) (σ : St) (gh ghL : Gh) : Gh where
 β := fun r => if listed L.head.res r then ghL.β r else gh.β r
 rv := fun r => match L.head.res.getD r none with
  | some ⟨_, .row ..⟩ => ghL.rv r
  | _ => gh.rv r
 vr := fun r => match L.head.res.getD r none with
  | some ⟨_, .row ..⟩ => versOf L σ r
  | _ => gh.vr r
 F := ghL.F
theorem zipSlots_get {ws : List Nat} {f : SV → SV} : ∀ {as bs : List SV} {k : Nat}, as.length = bs.length → (zipSlots ws f k as bs).length = bs.length ∧ ∀ (n : Nat) s, (zipSlots ws f k as bs)[n]? = some s → ∃ x y, as[n]? = some x ∧ bs[n]? = some y ∧ s = if ws.contains (k + n) then f x else y
 | [], [], k, _ => by simp [zipSlots]
 | x :: as, y :: bs, k, h => by
  obtain ⟨i1, i2⟩ := zipSlots_get (ws := ws) (f := f) (as := as) (bs := bs) (k := k + 1) (by simpa using h)
  refine ⟨by simp [zipSlots, i1], fun n s hs => ?_⟩
  cases n with
  | zero =>
   simp only [zipSlots, List.getElem?_cons_zero, si0] at hs
   exact ⟨x, y, rfl, rfl, hs.symm⟩
  | succ n =>
   simp only [zipSlots, List.getElem?_cons_succ] at hs
   obtain ⟨x', y', h1, h2, h3⟩ := i2 n s hs
   refine ⟨x', y', by simpa using h1, by simpa using h2, ?_⟩
   rw [h3]
   have : k + 1 + n = k + (n + 1) := by omega
   rw [this]
 | [], _ :: _, k, h => by simp at h
 | _ :: _, [], k, h => by simp at h
theorem zipRes_get {f : Nat → RK → RK} : ∀ {as bs : List (Option Res)} {k : Nat}, as.length ≤ bs.length → (zipRes f k as bs).length = bs.length ∧ ∀ (r : Nat), (∀ y, as[r]? = some (some y) → (zipRes f k as bs)[r]? = some (some ⟨tt, f (k + r) y.k⟩)) ∧ ((∀ y, as[r]? ≠ some (some y)) → (zipRes f k as bs)[r]? = bs[r]?)
 | [], bs, k, _ => by simp [zipRes]
 | some x :: as, y :: bs, k, h => by
  obtain ⟨i1, i2⟩ := zipRes_get (f := f) (as := as) (bs := bs) (k := k + 1) (by simpa using h)
  refine ⟨by simp [zipRes, i1], fun r => ?_⟩
  cases r with
  | zero => simp [zipRes]
  | succ r =>
   have e : k + 1 + r = k + (r + 1) := by omega
   have := i2 r
   rw [e] at this
   simpa [zipRes] using this
 | none :: as, y :: bs, k, h => by
  obtain ⟨i1, i2⟩ := zipRes_get (f := f) (as := as) (bs := bs) (k := k + 1) (by simpa using h)
  refine ⟨by simp [zipRes, i1], fun r => ?_⟩
  cases r with
  | zero => simp [zipRes]
  | succ r =>
   have e : k + 1 + r = k + (r + 1) := by omega
   have := i2 r
   rw [e] at this
   simpa [zipRes] using this
 | _ :: _, [], k, h => by simp at h
section
variable {hs rs : List (Option Res)} {sub : Nat → X} {vers : Nat → Nat} {Φ : FuncId → List D → List D} {ρ ρf : List D} {ghL gh2 : Gh}
structure InstOk (hs rs : List (Option Res)) (vers : Nat → Nat) (ghL gh2 : Gh) : Prop where
 β : ∀ r b, listed hs r = true → ghL.β r = some b → gh2.β r = some b
 F : gh2.F = ghL.F
 row : ∀ r, listed hs r = true → (∃ g e c x v z, rs.getD r none = some ⟨g, .row e c x v z⟩) → gh2.rv r = ghL.rv r ∧ gh2.vr r = vers r ∧ 1 ≤ vers r ∧ ghL.vr r = 1
theorem instSC_rel (hi : InstOk hs rs vers ghL gh2) {s t : SC} {l : List (Nat × X)} (hm : matchSC hs rs s t = some l) (hb : ∀ p ∈ l, (sub p.1).d Φ ρ = ρf.getD p.1 default) {v : Value} (hr : SC.rel Φ ρf w ghL s v) : SC.rel Φ ρ w gh2 (instSC sub vers s) v := by
 unfold matchSC at hm
 split at hm
 ·trivial
 ·rename_i e cts i
  simp only [si0] at hm
  subst hm
  have := hb _ List.mem_cons_self
  show Rep w gh2.F _ _ _
  rw [hi.F, this]
  exact hr
 ·simp only [si0] at hm
  subst hm
  have := hb _ List.mem_cons_self
  show Rep w gh2.F _ _ _
  rw [hi.F, this]
  exact hr
 ·split at hm
  ·simp only [si0] at hm
   subst hm
   have := hb _ List.mem_cons_self
   show Rep w gh2.F _ _ _
   rw [hi.F, this]
   exact hr
  ·cases hm
 ·split at hm
  ·rename_i hc
   simp only [Bool.and_eq_true, beq_iff_eq] at hc
   obtain ⟨b, h1, h2⟩ := hr
   exact ⟨b, hi.β _ _ hc.2 h1, h2⟩
  ·cases hm
 ·split at hm
  ·rename_i hc
   simp only [Bool.and_eq_true, beq_iff_eq] at hc
   obtain ⟨vs, h1, h2, h3⟩ := hr
   refine ⟨vs, h1, h2, fun j c hc' => ?_⟩
   obtain ⟨b, h4, h5⟩ := h3 j c hc'
   exact ⟨b, hi.β _ _ (List.all_eq_true.1 hc.2 c (List.mem_of_getElem? hc')) h4, h5⟩
  ·cases hm
 ·split at hm
  ·rename_i hc
   simp only [Bool.and_eq_true, beq_iff_eq] at hc
   obtain ⟨⟨rfl, rfl⟩, hl⟩ := hc
   split at hm
   ·rename_i hx
    obtain ⟨h1, h2, h3, h4⟩ := hi.row _ hl ⟨_, _, _, _, _, _, hx⟩
    obtain ⟨g0, g1, g2, g3⟩ := hr
    exact ⟨g0, h3, by rw [h2]; exact Nat.le_refl _, fun _ => by rw [h1]; exact g3 h4⟩
   ·cases hm
  ·cases hm
 ·trivial
 ·cases hm
theorem instSCs_rel (hi : InstOk hs rs vers ghL gh2) : ∀ {s t : List SC} {l : List (Nat × X)}, matchSCs hs rs s t = some l → (∀ p ∈ l, (sub p.1).d Φ ρ = ρf.getD p.1 default) → ∀ {v : List Value}, relS Φ ρf w ghL s v → relS Φ ρ w gh2 (s.map (instSC sub vers)) v
 | [], [], l, hm, hb, v, hr => by
  cases v with
  | nil => trivial
  | cons => exact hr.elim
 | x :: xs, y :: ys, l, hm, hb, v, hr => by
  cases v with
  | nil => exact hr.elim
  | cons v vs =>
   unfold matchSCs at hm
   split at hm
   ·rename_i l1 l2 h1 h2
    simp only [si0] at hm
    subst hm
    exact ⟨instSC_rel hi h1 (fun p hp => hb p (List.mem_append_left _ hp)) hr.1, instSCs_rel hi h2 (fun p hp => hb p (List.mem_append_right _ hp)) hr.2⟩
   ·cases hm
 | [], _ :: _, l, hm, _, _, _ => by simp [matchSCs] at hm
 | _ :: _, [], l, hm, _, _, _ => by simp [matchSCs] at hm
theorem instSV_rel (hi : InstOk hs rs vers ghL gh2) {s t : SV} {l : List (Nat × X)} (hm : matchSV hs rs s t = some l) (hb : ∀ p ∈ l, (sub p.1).d Φ ρ = ρf.getD p.1 default) {v : Value} (hr : SV.rel Φ ρf w ghL s v) : SV.rel Φ ρ w gh2 (instSV sub vers s) v := by
 unfold matchSV at hm
 split at hm
 ·trivial
 ·exact instSC_rel hi hm hb hr
 ·obtain ⟨vs, h1, h2⟩ := hr
  exact ⟨vs, h1, instSCs_rel hi hm hb h2⟩
 ·cases hm
end
theorem listed_false {hs : List (Option Res)} {r : Nat} (h : listed hs r = false) : ∀ y, hs[r]? ≠ some (some y) := by
 intro y hy
 rw [listed_of hy] at h
 cases h
def afterWith (L : LoopSig) (sub : Nat → X) (σ : St) : St :=
 ⟨zipSlots L.ws (instSV sub (versOf L σ)) 0 L.head.slots σ.slots, zipRes (instRK sub (versOf L σ)) 0 L.head.res σ.res⟩
theorem leave_with (h : Inv K σ gh a w) {L : LoopSig} {args : List X} (hm : matchHead L.head L.nv σ = some args) (hws : L.ws.all K.wok = true) {ghL : Gh} {K' : Ctx} (hΦ : K'.Φ = K.Φ) {sub : Nat → X} (hsub0 : ∀ i, i < L.nv → (sub i).d K.Φ K.ρ = K'.ρ.getD i default)
  (hPr : K'.Pr = (loopCtx K L args σ gh a w).Pr) (hw0 : K'.w0 = w) (hwok : K'.wok = fun n => L.ws.contains n) (ha0 : K'.a0 = a) (hL : Inv K' L.head ghL a' w') (hle : LoopLe L K'.Pr (gh.cut L.head.res) ghL) :
  Inv K (afterWith L sub σ) (afterGh L σ gh ghL) a' w' ∧ gh.le (afterGh L σ gh ghL) := by
 obtain ⟨l, m, hk⟩ := match_ok hm
 have hrows := hk.rows h
 obtain ⟨s1, s2⟩ := matchSVs_get hk.slots
 obtain ⟨r1, r2⟩ := matchRess_get hk.ress
 have hsub : ∀ p ∈ l ++ m, (sub p.1 : X).d K.Φ K.ρ = K'.ρ.getD p.1 default := fun p hp => hsub0 p.1 (hk.bind p hp).2
 have rowOf : ∀ r, listed L.head.res r = true → (∃ g e c x v z, σ.res.getD r none = some ⟨g, .row e c x v z⟩) → ∃ gy e cts i z g x v, L.head.res[r]? = some (some ⟨gy, .row e cts (.var i) 1 z⟩) ∧ σ.res[r]? = some (some ⟨g, .row e cts x v z⟩) ∧ isTt g = true ∧ gh.vr r = v ∧ 1 ≤ v ∧
   versOf L σ r = (if L.hv.contains i then v + 1 else v) := by
  intro r hl ⟨g, e, c, x, v, z, hx⟩
  obtain ⟨y, h1, h2⟩ := listed_get hl
  obtain ⟨x', l', h3, h4, h5, h6, _⟩ := r2 r y h1
  have : x' = ⟨g, .row e c x v z⟩ := by simp only [List.getD, h3] at hx; simpa using hx
  subst this
  rcases matchRK_inv h6 with ⟨_, _, _, _, _, e2, _⟩ | ⟨e', cts', i, x', v', z', e1, e2, _⟩
  ·cases e2
  ·cases e2
   obtain ⟨gy, ky⟩ := y
   simp only at e1
   subst e1
   have hok := h.res r _ h3 (isTt_sound h5)
   refine ⟨gy, e, c, i, z, g, x, v, h1, h3, h5, hok.1, hok.2.1, ?_⟩
   simp only [versOf, h2, hx]
 have hinst : InstOk L.head.res σ.res (versOf L σ) ghL (afterGh L σ gh ghL) := by
  refine ⟨fun r b hl hb => ?_, rfl, fun r hl hx => ?_⟩
  ·simp only [afterGh, hl, if_true]
   exact hb
  ·obtain ⟨gy, e, cts, i, z, g, x, v, h1, h3, h5, h6, h7, h8⟩ := rowOf r hl hx
   have h2 : L.head.res.getD r none = some ⟨gy, .row e cts (.var i) 1 z⟩ := by simp [List.getD, h1]
   refine ⟨by simp only [afterGh, h2], by simp only [afterGh, h2], by rw [h8]; split <;> omega, ?_⟩
   have := hL.res r _ h1 (by obtain ⟨_, _, _, h4, _⟩ := r2 r _ h1; exact isTt_sound h4)
   exact this.1
 have isRow : ∀ r g e c x v z, L.head.res.getD r none = some ⟨g, .row e c x v z⟩ → listed L.head.res r = true ∧ ∃ g e c x v z, σ.res.getD r none = some ⟨g, .row e c x v z⟩ := by
  intro r g e c x v z hx
  have hl : listed L.head.res r = true := by unfold listed; rw [hx]; rfl
  refine ⟨hl, ?_⟩
  obtain ⟨y, h1, h2⟩ := listed_get hl
  rw [hx] at h2
  cases h2
  obtain ⟨x', l', h3, h4, h5, h6, _⟩ := r2 r _ h1
  rcases matchRK_inv h6 with ⟨_, _, _, _, e1, _⟩ | ⟨e', cts', i, xx, v', z', e1, e2, _⟩
  ·cases e1
  ·obtain ⟨gx, kx⟩ := x'
   simp only at e2
   subst e2
   exact ⟨gx, e', cts', xx, v', z', by simp [List.getD, h3]⟩
 have hghle : gh.le (afterGh L σ gh ghL) := by
  refine ⟨fun r b hb => ?_, fun r => ?_, fun r h1 h2 => ?_, hle.F⟩
  ·simp only [afterGh]
   split
   ·rename_i hl
    exact hle.β r b (by simp only [Gh.cut, hl, if_true]; exact hb)
   ·exact hb
  ·simp only [afterGh]
   split
   ·rename_i hx
    obtain ⟨hl, hx'⟩ := isRow _ _ _ _ _ _ _ hx
    obtain ⟨gy, e, cts, i, z, g, x, v, h1, h3, h5, h6, h7, h8⟩ := rowOf r hl hx'
    rw [h8, h6]
    split <;> omega
   ·exact Nat.le_refl _
  ·simp only [afterGh] at h2 ⊢
   split
   ·rename_i hx
    obtain ⟨hl, hx'⟩ := isRow _ _ _ _ _ _ _ hx
    obtain ⟨gy, e, cts, i, z, g, x, v, h1', h3, h5, h6, h7, h8⟩ := rowOf r hl hx'
    rw [hx] at h2
    simp only at h2
    rw [h8, h6] at h2
    have hc : L.hv.contains i = false := by
     cases hc : L.hv.contains i with
     | false => rfl
     | true => rw [hc] at h2; simp at h2
    exact hle.rv r gy e cts i 1 z h1' hc
   ·rfl
 have hFmem : ∀ b, gh.F b → w'.heap[b]? = w.heap[b]? := fun b hb => by
  have := hL.pr b (by rw [hPr]; exact .inr (.inl hb))
  rw [hw0] at this
  exact this
 have hPrmem : ∀ b, (loopCtx K L args σ gh a w).Pr b → w'.heap[b]? = w.heap[b]? := fun b hb => by
  have := hL.pr b (by rw [hPr]; exact hb)
  rw [hw0] at this
  exact this
 have hkept : ∀ n, L.ws.contains n = false → a'.tmps.getD n undef = a.tmps.getD n undef := fun n hn => by
  have := hL.kept n (by rw [hwok]; exact hn)
  rw [ha0] at this
  exact this
 have hgrow : w.heap.size ≤ w'.heap.size := by have := hL.grow; rw [hw0] at this; exact this
 obtain ⟨z1, z2⟩ := zipSlots_get (ws := L.ws) (f := instSV sub (versOf L σ)) (k := 0) s1
 obtain ⟨y1, y2⟩ := zipRes_get (f := instRK sub (versOf L σ)) (k := 0) r1
 have resL : ∀ r y, L.head.res[r]? = some (some y) → ∀ x, (afterWith L sub σ).has r x → x = ⟨tt, instRK sub (versOf L σ) r y.k⟩ := by
  intro r y hy x hx
  have := (y2 r).1 y hy
  unfold St.has afterWith at hx
  simp only at hx
  rw [this] at hx
  simp only [si0, Nat.zero_add] at hx
  exact hx.symm
 have resU : ∀ r, listed L.head.res r = false → ∀ x, (afterWith L sub σ).has r x ↔ σ.has r x := by
  intro r hl x
  have := (y2 r).2 (listed_false hl)
  unfold St.has afterWith
  simp only
  rw [this]
 have onL : ∀ r y, L.head.res[r]? = some (some y) → ∃ x, (afterWith L sub σ).has r x ∧ x.on K := by
  intro r y hy
  have := (y2 r).1 y hy
  exact ⟨_, this, rfl⟩
 have headOn : ∀ (r : Nat) (y : Res), L.head.res[r]? = some (some y) → y.on K' := fun r y hy => by
  obtain ⟨_, _, _, h4, _⟩ := r2 r y hy
  exact isTt_sound h4
 have liveL : ∀ r y, L.head.res[r]? = some (some y) → (instRK sub (versOf L σ) r y.k).live (afterGh L σ gh ghL) r = y.k.live ghL r := by
  intro r y hy
  have hl := listed_of hy
  obtain ⟨x', l', h3, h4, h5, h6, _⟩ := r2 r y hy
  rcases matchRK_inv h6 with ⟨e, cs, cs', z, e1, e2, _⟩ | ⟨e', cts', i, x', v', z', e1, e2, _⟩
  ·rw [e1]
   cases z <;> simp [instRK, RK.live, afterGh, hl]
  ·have hg : L.head.res.getD r none = some ⟨y.g, .row e' cts' (.var i) 1 z'⟩ := by
    obtain ⟨gy, ky⟩ := y
    simp only at e1
    subst e1
    simp [List.getD, hy]
   rw [e1]
   cases z' <;> simp only [instRK, RK.live, afterGh, hg]
 have liveU : ∀ r (k : RK), listed L.head.res r = false → k.live (afterGh L σ gh ghL) r = k.live gh r := by
  intro r k hl
  have hg : L.head.res.getD r none = none := by
   unfold listed at hl
   cases hx : L.head.res.getD r none with
   | none => rfl
   | some y => rw [hx] at hl; cases hl
  cases k with
  | box e c z => cases z <;> simp [RK.live, afterGh, hl]
  | row e c x v z => cases z <;> simp only [RK.live, afterGh, hg]
 have cases' : ∀ r, listed L.head.res r = false ∨ ∃ y, L.head.res[r]? = some (some y) := by
  intro r
  cases hl : listed L.head.res r with
  | false => exact .inl rfl
  | true => obtain ⟨y, hy, _⟩ := listed_get hl; exact .inr ⟨y, hy⟩
 have othersPr : ∀ r x b, listed L.head.res r = false → σ.has r x → x.on K → x.k.live gh r = some b → (loopCtx K L args σ gh a w).Pr b := fun r x b hl hx hon hlive => .inr (.inr ⟨r, x, hl, hx, hon, hlive⟩)
 refine ⟨⟨hL.defers, ?_, fun n s hs => ?_, fun n hn => ?_, ?_, ?_, ?_, Nat.le_trans h.grow hgrow, fun b hb => ?_, h.prlt, hL.Flt, fun r b hb => ?_, fun r hr => ?_, fun r x hx hon => ?_, fun r x b hx hon hl => ?_, fun r x r' x' b hx hon hx' hon' hl hl' => ?_, h.le0.trans hghle, fun b hb => ?_, hL.tab⟩, hghle⟩
 ·rw [hL.size, s1]; exact z1.symm
 ·obtain ⟨x, y, h1, h2, rfl⟩ := z2 n s hs
  rw [Nat.zero_add]
  cases hc : L.ws.contains n with
  | true =>
   simp only [if_true]
   obtain ⟨l', h3, h4⟩ := s2 n x y h1 h2
   have hrel := hL.slot n x h1
   rw [hΦ] at hrel
   exact instSV_rel hinst h3 (fun p hp => hsub p (List.mem_append_left _ (h4 p hp))) hrel
  | false =>
   simp only [fe0, if_false]
   rw [hkept n hc]
   exact SV.rel_mono hghle hFmem (h.slot n y h2)
 ·have hc : L.ws.contains n = false := by
   cases hc : L.ws.contains n with
   | false => rfl
   | true =>
    have := List.all_eq_true.1 hws n (by simpa using hc)
    rw [hn] at this
    cases this
  rw [hkept n hc]
  exact h.kept n hn
 ·have := hL.os; rw [hw0] at this; exact this.trans h.os
 ·have := hL.tape; rw [hw0] at this; exact this.trans h.tape
 ·have := hL.output; rw [hw0] at this; exact this.trans h.output
 ·rw [hPrmem b (.inl hb)]; exact h.pr b hb
 ·rcases cases' r with hl | ⟨y, hy⟩
  ·simp only [afterGh, hl, fe0, if_false] at hb
   obtain ⟨x, hx, hon⟩ := h.beta r b hb
   exact ⟨x, (resU r hl x).2 hx, hon⟩
  ·exact onL r y hy
 ·rcases cases' r with hl | ⟨y, hy⟩
  ·have hg : L.head.res.getD r none = none := by
    unfold listed at hl
    cases hx : L.head.res.getD r none with
    | none => rfl
    | some y => rw [hx] at hl; cases hl
   simp only [afterGh, hg] at hr
   obtain ⟨x, hx, hon⟩ := h.vr0 r hr
   exact ⟨x, (resU r hl x).2 hx, hon⟩
  ·exact onL r y hy
 ·rcases cases' r with hl | ⟨y, hy⟩
  ·have hx0 := (resU r hl x).1 hx
   have hg : L.head.res.getD r none = none := by
    unfold listed at hl
    cases hx : L.head.res.getD r none with
    | none => rfl
    | some y => rw [hx] at hl; cases hl
   exact (h.res r x hx0 hon).keep hghle (by simp only [afterGh, hl, fe0, if_false]) (by simp only [afterGh, hg]) (by simp only [afterGh, hg]) hFmem fun b hb => hPrmem b (othersPr r x b hl hx0 hon hb)
  ·have e := resL r y hy x hx
   subst e
   have hl := listed_of hy
   obtain ⟨x', l', h3, h4, h5, h6, h7⟩ := r2 r y hy
   have hokL := hL.res r y hy (headOn r y hy)
   rw [hΦ] at hokL
   rcases matchRK_inv h6 with ⟨e, cs, cs', z, e1, e2, h6⟩ | ⟨e', cts', i, x', v', z', e1, e2, rfl⟩
   ·rw [e1] at hokL ⊢
    obtain ⟨b, cur, o1, o2, o3, o4⟩ := hokL
    exact ⟨b, cur, by simp only [afterGh, hl, if_true]; exact o1, o2, instSCs_rel hinst h6 (fun p hp => hsub p (List.mem_append_right _ (h7 p hp))) o3, o4⟩
   ·rw [e1] at hokL ⊢
    obtain ⟨o1, o2, o3, o4⟩ := hokL
    have hx' : ∃ g e c x v z, σ.res.getD r none = some ⟨g, .row e c x v z⟩ := by
     rename_i xr
     obtain ⟨gx, kx⟩ := xr
     simp only at e2
     subst e2
     exact ⟨gx, e', cts', x', v', z', by simp [List.getD, h3]⟩
    obtain ⟨i1, i2, i3, i4⟩ := hinst.row r hl hx'
    have hval := hsub (i, x') (List.mem_append_right _ (h7 _ List.mem_cons_self))
    refine ⟨i2, i3, by rw [i1]; exact o3, ?_⟩
    rw [i1]
    simp only at hval ⊢
    rw [hval]
    exact o4
 ·rcases cases' r with hl' | ⟨y, hy⟩
  ·have hx0 := (resU r hl' x).1 hx
   rw [liveU r _ hl'] at hl
   obtain ⟨o1, o2, o3⟩ := h.own r x b hx0 hon hl
   refine ⟨o1, fun hF => ?_, Nat.lt_of_lt_of_le o3 hgrow⟩
   rcases hle.Fn b hF with h1 | h1
   ·exact o2 h1
   ·exact h1 (by rw [hPr]; exact othersPr r x b hl' hx0 hon hl)
  ·have e := resL r y hy x hx
   subst e
   rw [liveL r y hy] at hl
   obtain ⟨o1, o2, o3⟩ := hL.own r y b hy (headOn r y hy) hl
   exact ⟨fun hp => o1 (by rw [hPr]; exact .inl hp), o2, o3⟩
 ·rcases cases' r with hl1 | ⟨y, hy⟩
  ·have hx0 := (resU r hl1 x).1 hx
   rw [liveU r _ hl1] at hl
   rcases cases' r' with hl2 | ⟨y', hy'⟩
   ·have hx0' := (resU r' hl2 x').1 hx'
    rw [liveU r' _ hl2] at hl'
    exact h.inj r x r' x' b hx0 hon hx0' hon' hl hl'
   ·have e := resL r' y' hy' x' hx'
    subst e
    rw [liveL r' y' hy'] at hl'
    exact absurd (by rw [hPr]; exact othersPr r x b hl1 hx0 hon hl) (hL.own r' y' b hy' (headOn r' y' hy') hl').1
  ·have e := resL r y hy x hx
   subst e
   rw [liveL r y hy] at hl
   rcases cases' r' with hl2 | ⟨y', hy'⟩
   ·have hx0' := (resU r' hl2 x').1 hx'
    rw [liveU r' _ hl2] at hl'
    exact absurd (by rw [hPr]; exact othersPr r' x' b hl2 hx0' hon' hl') (hL.own r y b hy (headOn r y hy) hl).1
   ·have e := resL r' y' hy' x' hx'
    subst e
    rw [liveL r' y' hy'] at hl'
    exact hL.inj r y r' y' b hy (headOn r y hy) hy' (headOn r' y' hy') hl hl'
 ·rcases hle.Fn b hb with h1 | h1
  ·exact h.Fpr b h1
  ·exact .inr fun hp => h1 (by rw [hPr]; exact .inl hp)
theorem loop_leave (h : Inv K σ gh a w) {L : LoopSig} {args : List X} (hm : matchHead L.head L.nv σ = some args) (hws : L.ws.all K.wok = true) {ghL : Gh} {vals : List D} {code : D} {K' : Ctx} (hΦ : K'.Φ = K.Φ) (hρ : K'.ρ = setVars (args.map (X.d K.Φ K.ρ)) L.wv vals)
  (hPr : K'.Pr = (loopCtx K L args σ gh a w).Pr) (hw0 : K'.w0 = w) (hwok : K'.wok = fun n => L.ws.contains n) (ha0 : K'.a0 = a) (hL : Inv K' L.head ghL a' w') (hle : LoopLe L K'.Pr (gh.cut L.head.res) ghL) (hfn : K.Φ L.key (args.map (X.d K.Φ K.ρ)) = code :: vals) :
  Inv K (afterLoop L args σ) (afterGh L σ gh ghL) a' w' ∧ gh.le (afterGh L σ gh ghL) := by
 obtain ⟨l, m, hk⟩ := match_ok hm
 refine leave_with h hm hws hΦ (sub := subOf L args) (fun i h2 => ?_) hPr hw0 hwok ha0 hL hle
 have hlt : i < args.length := by rw [hk.len]; exact h2
 rw [hρ, setVars_get _ _ _ (by simpa using hlt)]
 unfold subOf
 cases posIn i L.wv with
 | some j =>
  simp only [X.d, ds_consX, hfn]
  rfl
 | none =>
  simp only
  simp only [List.getD, List.getElem?_map, List.getElem?_eq_getElem hlt, Option.map_some, Option.getD_some]
end
end Go.RV
namespace Go.RV
open Go.RowKit
section
variable {P : Program} {K : Ctx} {σ : St} {gh : Gh} {a : Act} {w : World} {o : Oper}
theorem row_put (h : Inv K σ gh a w) {r : Nat} {x : Res} (hx : σ.has r x) (hon : x.on K) {ety : TypeId} {cts : List CT} {content0 : X} {ver : Nat} (hk : x.k = .row ety cts content0 ver false)
  {w' : World} (hgr : w.grownBy w' (ownB (gh.rv r))) {content : X} {xs : List (List D)} (hd : content.d K.Φ K.ρ = .l xs) {vals : List Value} (hown : OwnR w' ety cts.length (gh.rv r) xs.length vals) (hrep : RowRep w gh.F cts xs vals) :
  Inv K ⟨σ.slots, σ.res.set r (some ⟨x.g, .row ety cts content ver false⟩)⟩ gh a w' := by
 have hlt : r < σ.res.length := (List.getElem?_eq_some_iff.1 hx).1
 have hok := h.res r x hx hon
 rw [hk] at hok
 obtain ⟨hv1, hv2, hv3, _⟩ := hok
 have hFb : ∀ b, gh.F b → w'.heap[b]? = w.heap[b]? := fun b hb => hgr.block b (h.Flt b hb) fun eb => (h.own r x b hx hon (by rw [hk]; exact eb.symm)).2.1 hb
 refine h.step (T := fun q => q = r) ⟨Gh.le.refl gh, hgr.os, hgr.tape, hgr.output, hgr.size, fun q hq => ⟨by simp [Ne.symm hq], rfl, rfl, rfl⟩,
  fun b hb hT => hgr.block b hb fun eb => hT r x rfl hx hon (by rw [hk]; exact eb.symm),
  fun b hb => Nat.lt_of_lt_of_le (h.Flt b hb) hgr.size, fun b hb => .inl hb, fun q y hT hy hony => ?_, fun q y b hT hy hony hl => ?_, fun q y q' y' c hT hT' _ _ _ _ _ _ => hT.trans hT'.symm, fun q c hT hb => ?_, fun q hT hr => ?_⟩
 ·subst hT
  rw [getElem?_set_has hlt] at hy
  simp only [si0] at hy
  subst hy
  exact ⟨hv1, hv2, hv3, xs, vals, hd, hown, hrep.mono (fun _ h => h) hFb⟩
 ·subst hT
  rw [getElem?_set_has hlt] at hy
  simp only [si0] at hy
  subst hy
  have hl' : x.k.live gh q = some b := by rw [hk]; exact hl
  obtain ⟨o1, o2, o3⟩ := h.own q x b hx hon hl'
  exact ⟨o1, o2, Nat.lt_of_lt_of_le o3 hgr.size, fun r2 x2 hT2 hx2 hon2 hl2 => hT2 (h.inj r2 x2 q x b hx2 hon2 hx hon hl2 hl')⟩
 ·subst hT
  exact ⟨_, getElem?_set_has hlt, hon⟩
 ·subst hT
  exact ⟨_, getElem?_set_has hlt, hon⟩
theorem eff_row (h : Inv K σ gh a w) {f : FuncId} {svs : List SV} {vals : List Value} (hlen : svs.length = vals.length) (hargs : ∀ (j : Nat) s v, svs[j]? = some s → vals[j]? = some v → SV.rel K.Φ K.ρ w gh s v) {G : X} (hG : (G.d K.Φ K.ρ).bool = true) {eo : EO} {S : Sig}
    {q : TypeId × List CT × List (Bool × List CT)} {pre : FuncId → List D → Prop} (hM : MeetsRow P f S q (pre f) (K.Φ f)) (hrun : (∀ w, (callFunc f vals.toArray).run P w = .ok (.enter f vals.toArray) w) → (execOp a.eval o).run P w = .ok (.enter f vals.toArray) w)
    (he : (effRow G S q f svs).run σ.res = some eo) (hn : ∀ n ∈ eo.nd, n.holds pre K.Φ K.ρ) : EffOk K σ P o a w eo := by
  unfold effRow at he
  split at he
  · rename_i r ver rest
    cases vals with
    | nil => simp at hlen
    | cons v vs =>
      have hv := hargs 0 _ v rfl rfl
      obtain ⟨hsl, hver1, hver2, hveq⟩ : SC.rel K.Φ K.ρ w gh (.row r ver) v := hv
      obtain ⟨R, hR, he⟩ := RM.run_res he
      split at he
      · rename_i ety cts content ver' frz hk
        split at he
        · rename_i hcc
          simp only [Bool.and_eq_true, beq_iff_eq, Bool.not_eq_true'] at hcc
          obtain ⟨⟨⟨⟨⟨hg1, hg2⟩, hfz⟩, rfl⟩, he1⟩, hcb⟩ := hcc
          have hcb := CT.beqs_eq _ _ hcb
          subst hfz
          have hon : R.on K := isTt_sound hg2
          obtain ⟨es, wr, he, hok1, hok2, hok3⟩ := argsX_ok h hG he (vs := vs) (by simpa using hlen) (fun j s u hs hu => hargs (j + 1) s u (by simpa using hs) (by simpa using hu))
          split at he
          · rename_i hwr
            have hne : ∀ p ∈ wr, p.1 ≠ r := fun p hp => by simpa using List.all_eq_true.1 hwr p hp
            obtain ⟨gh1, hI1, hle1, b1, r1, v1, f1, g1⟩ := freeze_all h hok1
            have hR1 : (⟨σ.slots, setAll σ.res wr⟩ : St).has r R := by
              unfold St.has at hR ⊢
              show (setAll σ.res wr)[r]? = _
              rw [setAll_off hne]; exact hR
            have hok := hI1.res r R hR1 hon
            rw [hk] at hok
            obtain ⟨hv1, _, _, xs, vals0, hd, hown, hrep⟩ := hok
            have hve : v = gh1.rv r := by rw [r1]; exact hveq (by rw [← v1]; exact hv1)
            subst hve
            have hA := hok3 rfl gh1.F hle1.F f1
            have hpre : pre f ((consX (content :: es)).ds K.Φ K.ρ) := by
              revert he
              split
              · intro he; have := RM.run_done he; subst this; exact hn (.pre f _) (by simp)
              · intro he; have := RM.run_done he; subst this; exact hn (.pre f _) (by simp)
              · intro he; exact (RM.run_fail he).elim
            rw [ds_consX, List.map_cons, hd] at hpre
            have hc := hM.2 w gh1.F (gh1.rv r) vs xs vals0 (es.map (X.d K.Φ K.ρ)) hI1.Flt hI1.tab (by rw [← he1, ← hcb]; exact hown) (by rw [← hcb]; exact hrep)
              (fun b hb => by
                obtain ⟨o1, o2, o3⟩ := hI1.own r R b hR1 hon (by rw [hk]; exact hb)
                exact ⟨o2, o3⟩) hA hpre
            have hcont : ∀ {ys}, K.Φ f (.l xs :: es.map (X.d K.Φ K.ρ)) = [.l ys] → (X.app f (consX (content :: es)) 0).d K.Φ K.ρ = .l ys := fun e => by
              simp only [X.d, ds_consX, List.map_cons, hd, e, gz0]
            have hlt : r < (setAll σ.res wr).length := (List.getElem?_eq_some_iff.1 hR1).1
            refine Does.enter (hrun (hM.1 _)) (hc.mono fun e w' ⟨v', xs', vals', hfn, hown', hrep', hgr, hfresh, hcase⟩ => ?_)
            rw [← he1, ← hcb] at hown'
            rw [← hcb] at hrep'
            split at he
            · rename_i e' ct' hrs
              have he := RM.run_done he
              subst he
              rw [hrs] at hcase
              simp only [List.isEmpty_cons, fe0, if_false] at hcase
              obtain ⟨gh', hI', hle', hrv', hvr', hF'⟩ := row_step hI1 (r := r) hlt (ob := ownB (gh1.rv r)) (fun b hb => ⟨R, hR1, hon, by rw [hk]; exact hb⟩) (ver := ver + 1) (by omega) (g := R.g) hon hgr (hcont hfn) hown' hrep' hfresh
              refine ⟨v', hcase, gh', ?_, hown'.slice, by omega, by rw [hvr']; exact Nat.le_refl _, fun _ => hrv'.symm⟩
              rw [setAll_app]
              exact hI'
            · rename_i hrs
              have he := RM.run_done he
              subst he
              rw [hrs] at hcase
              simp only [List.isEmpty_nil, if_true] at hcase
              obtain ⟨hcase, rfl⟩ := hcase
              refine ⟨undef, hcase, gh1, ?_, rfl⟩
              rw [setAll_app]
              exact row_put hI1 hR1 hon hk hgr (hcont hfn) hown' hrep'
            · exact (RM.run_fail he).elim
          · exact (RM.run_fail he).elim
        · exact (RM.run_fail he).elim
      · exact (RM.run_fail he).elim
  · exact (RM.run_fail he).elim
end
end Go.RV
