/-
 RV, part 8: building values, new variables, stores.; RV, part 9: contracts of functions as functions of data; calls.; RV, part 9b: results that the caller may go on writing.
-/
import Derived.Great.FillDense
import Derived.Test.YtinaaabmmjpijaaDoorZTopGrowsB
namespace Go.RV
open Go.RowKit
section
variable {P : Program} {K : Ctx} {σ : St} {gh : Gh} {a : Act} {w : World} {o : Oper}
theorem zero_rel {t : TypeId} {cs : List SC} (h : zeroCells P t = some cs) (w : World) (gh : Gh) : ∃ z, (zeroValue t).run P w = .ok z w ∧ (∃ i, P.info? t = some i ∧ i.zero = some z) ∧ relS K.Φ K.ρ w gh cs z.cells.toList := by
 unfold zeroCells at h
 split at h
 ·rename_i v hv
  cases hi : P.info? t with
  | none => simp [hi] at hv
  | some i =>
   simp [hi] at hv
   refine ⟨v, by simp [zeroValue, typeInfo, hi, hv], ⟨i, rfl, hv⟩, ?_⟩
   unfold constSV at h
   split at h
   ·rename_i us
    simp only [cellsOf, si0] at h
    subst h
    exact relS_const us.toList
   ·simp [cellsOf] at h
   ·rename_i h1 h2
    simp only [cellsOf, si0] at h
    subst h
    have : v.cells = #[v] := by cases v <;> first | rfl | exact absurd rfl (h1 _)
    rw [this]
    exact ⟨constSC_rel v, trivial⟩
 ·cases h
theorem cells_rel {s : SV} {v : Value} {cs : List SC} (h : cellsOf s = some cs) (hs : SV.rel K.Φ K.ρ w gh s v) (hn : noAny cs = true) : relS K.Φ K.ρ w gh cs v.cells.toList := by
 unfold cellsOf at h
 split at h <;> simp only [si0, reduceCtorEq] at h <;> subst h
 ·rename_i c
  have hc : c ≠ .any := by rintro rfl; simp [noAny] at hn
  have h1 : v.oneCell' = true := SC.rel_oneCell (show SC.rel K.Φ K.ρ w gh c v from hs) hc
  have : v.cells = #[v] := by cases v <;> first | rfl | cases h1
  rw [this]
  exact ⟨hs, trivial⟩
 ·obtain ⟨vs, rfl, hr⟩ := hs
  exact hr
theorem fill_step (us : Array Value) (off : Nat) (cells : Array Value) (h : off + us.size ≤ cells.size) :
  (us.zipIdx.foldl (fun cs (x : Value × Nat) => cs.setIfInBounds (off + x.2) x.1) cells).toList = cells.toList.take off ++ us.toList ++ cells.toList.drop (off + us.toList.length) := by
 obtain ⟨h1, h2⟩ := Great.foldl_set off us.toList 0 cells
 rw [← Array.foldl_toList, Array.toList_zipIdx]
 apply List.ext_getElem?
 intro k
 rw [Array.getElem?_toList, h2 k]
 simp only [Nat.add_zero, Array.length_toList]
 by_cases hk : off ≤ k ∧ k < off + us.size ∧ k < cells.size
 ·rw [if_pos hk, List.getElem?_append_left (by simp; omega), List.getElem?_append_right (by simp; omega)]
  congr 1
  simp; omega
 ·rw [if_neg hk]
  by_cases hk2 : k < off
  ·rw [List.append_assoc, List.getElem?_append_left (by simp; omega), List.getElem?_take, if_pos hk2]
   simp
  ·rw [List.getElem?_append_right (by simp; omega), List.getElem?_drop]
   simp only [List.length_append, List.length_take, Array.length_toList]
   rw [Array.getElem?_toList]
   congr 1
   omega
theorem fill_ok {place : Nat → Option (Nat × Nat)} : ∀ {parts : List (Nat × SV)} {vals : List (Nat × Value)} {z cs : List SC} {cells : Array Value}, setParts place z parts = some cs →
  relS K.Φ K.ρ w gh z cells.toList → parts.length = vals.length → (∀ (j : Nat) p u, parts[j]? = some p → vals[j]? = some u → p.1 = u.1 ∧ SV.rel K.Φ K.ρ w gh p.2 u.2) →
  ∃ r, Instr.fill place cells vals = some r ∧ relS K.Φ K.ρ w gh cs r.toList
 | [], [], z, cs, cells, h, hz, _, _ => by
  simp only [setParts, si0] at h
  subst h
  exact ⟨cells, rfl, hz⟩
 | p :: parts, u :: vals, z, cs, cells, h, hz, hl, hr => by
  obtain ⟨i, s⟩ := p
  obtain ⟨i', v⟩ := u
  obtain ⟨e, hs⟩ := hr 0 (i, s) (i', v) rfl rfl
  simp only at e hs
  subst e
  simp only [setParts] at h
  split at h
  ·rename_i off size cs1 hp hc
   split at h
   ·rename_i hcond
    simp only [Bool.and_eq_true, beq_iff_eq] at hcond
    obtain ⟨⟨h1, h2⟩, h3⟩ := hcond
    have h3 := Nat.le_of_ble_eq_true h3
    have hcr := cells_rel hc hs h2
    have hlen := relS_length hcr
    have hzl := relS_length hz
    simp only [Array.length_toList] at hlen hzl
    have hle : off + v.cells.size ≤ cells.size := by omega
    have hz' : relS K.Φ K.ρ w gh (setRange z off cs1) (v.cells.zipIdx.foldl (fun cs (x : Value × Nat) => cs.setIfInBounds (off + x.2) x.1) cells).toList := by
     rw [fill_step v.cells off cells hle]
     exact relS_setRange off hz hcr
    obtain ⟨r, hf, hrr⟩ := fill_ok h hz' (by simpa using hl) (fun j p u hp hu => hr (j + 1) p u (by simpa using hp) (by simpa using hu))
    refine ⟨r, ?_, hrr⟩
    unfold Instr.fill
    simp only [hp]
    rw [if_neg (by simp; omega)]
    exact hf
   ·cases h
  ·cases h
 | [], _ :: _, _, _, _, _, _, hl, _ => by simp at hl
 | _ :: _, [], _, _, _, _, _, hl, _ => by simp at hl
theorem run_places {w : World} : ∀ {fs : List Field} {l : List (Nat × Nat)}, placesOf P fs = some l → (fs.mapM (fun f => do pure (f.offset, ← sizeOf f.type)) : Sem (List (Nat × Nat))).run P w = .ok l w
 | [], l, h => by
  simp only [placesOf, si0] at h
  subst h
  simp
 | f :: fs, l, h => by
  simp only [placesOf] at h
  split at h
  ·rename_i n l' h1 h2
   simp only [si0] at h
   subst h
   have ih := run_places (w := w) h2
   simp only [List.mapM_cons, Sem.run_bind, run_sizeT h1, Result.andThen_ok, Sem.run_pure, ih]
  ·cases h
theorem eff_build (h : Inv K σ gh a w) {t : TypeId} {ps : Array (Nat × Operand)} (ho : o.op = .build t ps) {G : X} (hG : (G.d K.Φ K.ρ).bool = true) {eo : EO}
  (he : (effBuild P t (ps.toList.map fun p => (p.1, strip G (σ.opd p.2)))).run σ.res = some eo) : EffOk K σ P o a w eo := by
 have hparts : ∀ (j : Nat) p u, (ps.toList.map fun p => (p.1, strip G (σ.opd p.2)))[j]? = some p → (ps.toList.map fun p => (p.1, a.eval p.2))[j]? = some u → p.1 = u.1 ∧ SV.rel K.Φ K.ρ w gh p.2 u.2 := by
  intro j p u hp hu
  simp only [List.getElem?_map, Option.map_eq_some_iff] at hp hu
  obtain ⟨q, hq, rfl⟩ := hp
  obtain ⟨q', hq', rfl⟩ := hu
  obtain rfl := Option.some.inj (hq.symm.trans hq')
  exact ⟨rfl, strip_rel hG (h.opd q.2)⟩
 have hmap : (ps.map fun (x : Nat × Operand) => (x.1, a.eval x.2)).toList = ps.toList.map fun p => (p.1, a.eval p.2) := by simp
 unfold effBuild at he
 split at he
 ·rename_i z fs hz hu
  split at he
  ·rename_i places hp
   split at he
   ·rename_i cs hs
    have he := RM.run_done he
    subst he
    obtain ⟨v, hrun, _, hrel⟩ := zero_rel (K := K) (gh := gh) hz w
    obtain ⟨r, hf, hrr⟩ := fill_ok hs hrel (by simp) hparts
    have hpl := run_places (P := P) (w := w) hp
    refine EffOk.pure h (v := .agg r) ?_ ⟨r, rfl, hrr⟩
    simp only [execOp, ho, Instr.build, Sem.run_bind, hrun, Result.andThen_ok, run_underlying hu, Array.mapM_eq_mapM_toList, Sem.run_map, hpl, hmap]
    have : (fun (x : Nat) => (List.toArray places)[x]?) = fun (x : Nat) => places[x]? := by funext x; simp
    rw [this, hf]
    simp
   ·exact (RM.run_fail he).elim
  ·exact (RM.run_fail he).elim
 ·rename_i z n el hz hu
  split at he
  ·rename_i m hm
   split at he
   ·rename_i cs hs
    have he := RM.run_done he
    subst he
    obtain ⟨v, hrun, _, hrel⟩ := zero_rel (K := K) (gh := gh) hz w
    obtain ⟨r, hf, hrr⟩ := fill_ok hs hrel (by simp) hparts
    refine EffOk.pure h (v := .agg r) ?_ ⟨r, rfl, hrr⟩
    simp only [execOp, ho, Instr.build, Sem.run_bind, hrun, Result.andThen_ok, run_underlying hu, run_sizeT hm, hmap, hf]
    simp
   ·exact (RM.run_fail he).elim
  ·exact (RM.run_fail he).elim
 ·exact (RM.run_fail he).elim
theorem newBlock_not {b : Nat} (h : Inv K σ gh a w) (hb : b = w.heap.size) : ¬ K.Pr b ∧ ¬ gh.F b := by
 subst hb
 exact ⟨fun hp => by have := h.prlt _ hp; have := h.grow; omega, fun hf => by have := h.Flt _ hf; omega⟩
theorem getElem?_set_has {l : List (Option Res)} {i : Nat} {x : Res} (h : i < l.length) : (l.set i (some x))[i]? = some (some x) := by simp [h]
theorem new_box (h : Inv K σ gh a w) {id : Nat} (hid : σ.res[id]? = some none) {G : X} (hG : (G.d K.Φ K.ρ).bool = true) {e : TypeId} {cs : List SC} {us : Array Value} (hr : relS K.Φ K.ρ w gh cs us.toList) :
  ∃ gh', Inv K ⟨σ.slots, σ.res.set id (some ⟨G, .box e cs false⟩)⟩ gh' a (w.alloc (.cells us e)) ∧ gh'.β id = some w.heap.size := by
 have hβ : gh.β id = none := by
  cases hb : gh.β id with
  | none => rfl
  | some b => obtain ⟨x, hx, _⟩ := h.beta id b hb; unfold St.has at hx; rw [hid] at hx; simp at hx
 have hlt : id < σ.res.length := (List.getElem?_eq_some_iff.1 hid).1
 let gh' : Gh := { gh with β := fun r => if r = id then some w.heap.size else gh.β r }
 have hle : gh.le gh' := ⟨fun r b hb => by
   show (if r = id then some w.heap.size else gh.β r) = some b
   rw [if_neg (by rintro rfl; rw [hβ] at hb; cases hb)]; exact hb, fun _ => Nat.le_refl _, fun _ _ _ => rfl, fun _ hf => hf⟩
 have hFb : ∀ b, gh.F b → (w.alloc (.cells us e)).heap[b]? = w.heap[b]? := fun b hb => Below.heap_alloc w _ b (h.Flt b hb)
 have hbid : gh'.β id = some w.heap.size := by simp [gh']
 refine ⟨gh', ?_, hbid⟩
 have hn := newBlock_not h rfl
 have hnl : ∀ r2 x2, σ.has r2 x2 → x2.on K → x2.k.live gh r2 ≠ some w.heap.size := fun r2 x2 hx2 hon2 hl2 => by have := (h.own r2 x2 _ hx2 hon2 hl2).2.2; omega
 refine h.step (T := fun r => r = id) ⟨hle, rfl, rfl, rfl, by simp, fun r hr => ⟨by simp [Ne.symm hr], by simp [gh', hr], rfl, rfl⟩, fun b hb _ => Below.heap_alloc w _ b hb,
  fun b hb => by have := h.Flt b hb; simp; omega, fun b hb => .inl hb, fun r x hT hx hon => ?_, fun r x b hT hx hon hl => ?_, fun r x r' x' b hT hT' _ _ _ _ _ _ => hT.trans hT'.symm, fun r b hT hb => ?_, fun r hT hr => ?_⟩
 ·subst hT
  rw [getElem?_set_has hlt] at hx
  simp only [si0] at hx
  subst hx
  exact ⟨w.heap.size, us, hbid, heap_alloc_new w _, relS_mono hle hFb hr, fun hf => by cases hf⟩
 ·subst hT
  rw [getElem?_set_has hlt] at hx
  simp only [si0] at hx
  subst hx
  simp only [RK.live, hbid, si0] at hl
  subst hl
  exact ⟨hn.1, hn.2, by simp, fun r2 x2 _ hx2 hon2 => hnl r2 x2 hx2 hon2⟩
 ·subst hT
  exact ⟨_, getElem?_set_has hlt, hG⟩
 ·subst hT
  exact ⟨_, getElem?_set_has hlt, hG⟩
theorem eff_alloc (h : Inv K σ gh a w) {e : TypeId} (ho : o.op = .alloc e) {G : X} (hG : (G.d K.Φ K.ρ).bool = true) {id : Nat} (hid : σ.res[id]? = some none) {cs : List SC} (hz : zeroCells P e = some cs) {nd : List Nd} :
  EffOk K σ P o a w ⟨.c (.ptr id 0), [(id, ⟨G, .box e cs false⟩)], nd⟩ := by
 obtain ⟨z, hrun, _, hrel⟩ := zero_rel (K := K) (gh := gh) hz w
 obtain ⟨gh', hI, hβ⟩ := new_box h hid hG (e := e) hrel
 refine Does.val (v := .pointer (some ⟨w.heap.size, 0, none⟩)) (w' := w.alloc (.cells z.cells e)) ?_ ⟨gh', by simpa [setAll] using hI, w.heap.size, hβ, rfl⟩
 simp [execOp, ho, Instr.alloc, hrun, newVar, newRow]
theorem eff_box (h : Inv K σ gh a w) {e : TypeId} {x : Operand} (ho : o.op = .box e x) {G : X} (hG : (G.d K.Φ K.ρ).bool = true) {id : Nat} (hid : σ.res[id]? = some none) {cs : List SC} (hc : cellsOf (strip G (σ.opd x)) = some cs)
  (hn : noAny cs = true) {nd : List Nd} : EffOk K σ P o a w ⟨.c (.ptr id 0), [(id, ⟨G, .box e cs false⟩)], nd⟩ := by
 have hrel := cells_rel hc (strip_rel hG (h.opd x)) hn
 obtain ⟨gh', hI, hβ⟩ := new_box h hid hG (e := e) hrel
 refine Does.val (v := .pointer (some ⟨w.heap.size, 0, none⟩)) (w' := w.alloc (.cells (a.eval x).cells e)) ?_ ⟨gh', by simpa [setAll] using hI, w.heap.size, hβ, rfl⟩
 simp [execOp, ho, Instr.box, newVar, newRow]
theorem SC.beq_eq : ∀ {s t : SC}, SC.beq s t = true → s = t
 | s, t, h => by
  unfold SC.beq at h
  split at h
  ·simp only [Bool.and_eq_true] at h
   rw [CT.beq_eq _ _ h.1, X.beq_eq _ _ h.2]
  ·simp only [Bool.and_eq_true, beq_iff_eq] at h
   rw [h.1, h.2]
  ·cases h
theorem SC.beqs_eq : ∀ {s t : List SC}, SC.beqs s t = true → s = t
 | [], [], _ => rfl
 | a :: as, b :: bs, h => by
  simp only [SC.beqs, Bool.and_eq_true] at h
  rw [SC.beq_eq h.1, SC.beqs_eq h.2]
 | [], _ :: _, h => by simp [SC.beqs] at h
 | _ :: _, [], h => by simp [SC.beqs] at h
theorem setRow_get (w : World) (g : Nat) (cur cs : Array Value) (t : TypeId) (fr : Nat × Nat) (hg : w.heap[g]? = some (.cells cur t fr)) : (w.setRow g cs).heap[g]? = some (.cells cs t fr) :=
 setRow_heap w g cur cs t fr hg
theorem set_same {l : List (Option Res)} {r : Nat} {x : Res} (h : l[r]? = some (some x)) : l.set r (some x) = l := by
 apply List.ext_getElem?
 intro k
 by_cases hk : r = k
 ·subst hk
  have := (List.getElem?_eq_some_iff.1 h).1
  rw [List.getElem?_set, if_pos rfl, if_pos this]
  exact h.symm
 ·simp [hk]
theorem run_storeVar {t : TypeId} {b off : Nat} {cur : Array Value} {e : TypeId} {v : Value} (hs : sizeT P t = some v.cells.size) (hb : w.heap[b]? = some (.cells cur e (0, 0)))
  (hl : off + v.cells.size ≤ cur.size) (h1 : ∀ u ∈ v.cells.toList, u.oneCell' = true) :
  (storeVar t ⟨b, off, none⟩ v).run P w = .ok () (w.setRow b (cur.toList.take off ++ v.cells.toList ++ cur.toList.drop (off + v.cells.toList.length)).toArray) := by
 have := run_storeCells_at P b off e v.cells.toList 0 cur w hb (by simpa using hl) h1
 simp only [storeVar, Sem.run_bind, run_sizeT hs, Result.andThen_ok, ne_eq, not_true_eq_false, if_false, this, Nat.add_zero]
theorem store_box' (h : Inv K σ gh a w) {r : Nat} {x : Res} (hx : σ.has r x) (hon : x.on K) {ety : TypeId} {cells : List SC} (hk : x.k = .box ety cells false) {b : Nat} (hβ : gh.β r = some b) {us : List Value} {cs : List SC} {off : Nat}
  (hr : relS K.Φ K.ρ w gh cs us) (hoff : off + cs.length ≤ cells.length) {cells' : List SC} (hcl : ∀ {w : World} {vs : List Value}, relS K.Φ K.ρ w gh (setRange cells off cs) vs → relS K.Φ K.ρ w gh cells' vs) :
  ∃ cur, w.heap[b]? = some (.cells cur ety (0, 0)) ∧ off + us.length ≤ cur.size ∧
   Inv K ⟨σ.slots, σ.res.set r (some ⟨x.g, .box ety cells' false⟩)⟩ gh a (w.setRow b (cur.toList.take off ++ us ++ cur.toList.drop (off + us.length)).toArray) := by
 have hok := h.res r x hx hon
 rw [hk] at hok
 obtain ⟨b', cur, hb', hg, hrel, _⟩ := hok
 obtain rfl : b' = b := Option.some.inj (hb'.symm.trans hβ)
 have hlt : r < σ.res.length := (List.getElem?_eq_some_iff.1 hx).1
 have hlive : x.k.live gh r = some b' := by rw [hk]; exact hβ
 obtain ⟨o1, o2, o3⟩ := h.own r x b' hx hon hlive
 have e1 := relS_length hrel
 have e2 := relS_length hr
 refine ⟨cur, hg, by simp at e1; omega, ?_⟩
 generalize hcs' : (cur.toList.take off ++ us ++ cur.toList.drop (off + us.length)).toArray = cs'
 have hFb : ∀ c, gh.F c → (w.setRow b' cs').heap[c]? = w.heap[c]? := fun c hc => setRow_other w b' c _ (by rintro rfl; exact o2 hc)
 refine h.step (T := fun q => q = r) ⟨Gh.le.refl gh, rfl, rfl, rfl, by simp, fun q hq => ⟨by simp [Ne.symm hq], rfl, rfl, rfl⟩,
  fun c hc hT => setRow_other w b' c _ (by rintro rfl; exact hT r x rfl hx hon hlive), fun c hc => by have := h.Flt c hc; simpa using this, fun c hc => .inl hc,
  fun q y hT hy hony => ?_, fun q y c hT hy hony hl => ?_, fun q y q' y' c hT hT' _ _ _ _ _ _ => hT.trans hT'.symm, fun q c hT hb => ?_, fun q hT hr => ?_⟩
 ·subst hT
  rw [getElem?_set_has hlt] at hy
  simp only [si0] at hy
  subst hy
  refine ⟨b', cs', hβ, setRow_get w b' cur cs' ety (0, 0) hg, ?_, fun hf => by cases hf⟩
  subst hcs'
  exact hcl (relS_mono (Gh.le.refl gh) hFb (by simpa using relS_setRange off hrel hr))
 ·subst hT
  rw [getElem?_set_has hlt] at hy
  simp only [si0] at hy
  subst hy
  simp only [RK.live] at hl
  obtain rfl : b' = c := Option.some.inj (hβ.symm.trans hl)
  refine ⟨o1, o2, by simpa using o3, fun r2 x2 hT2 hx2 hon2 hl2 => hT2 (h.inj r2 x2 _ x b' hx2 hon2 hx hon hl2 hlive)⟩
 ·subst hT
  exact ⟨_, getElem?_set_has hlt, hon⟩
 ·subst hT
  exact ⟨_, getElem?_set_has hlt, hon⟩
theorem store_box (h : Inv K σ gh a w) {r : Nat} {x : Res} (hx : σ.has r x) (hon : x.on K) {ety : TypeId} {cells : List SC} (hk : x.k = .box ety cells false) {b : Nat} (hβ : gh.β r = some b) {us : List Value} {cs : List SC} {off : Nat}
  (hr : relS K.Φ K.ρ w gh cs us) (hoff : off + cs.length ≤ cells.length) :
  ∃ cur, w.heap[b]? = some (.cells cur ety (0, 0)) ∧ off + us.length ≤ cur.size ∧
   Inv K ⟨σ.slots, σ.res.set r (some ⟨x.g, .box ety (setRange cells off cs) false⟩)⟩ gh a (w.setRow b (cur.toList.take off ++ us ++ cur.toList.drop (off + us.length)).toArray) :=
 store_box' h hx hon hk hβ hr hoff id
theorem cellsData_rep : ∀ {cts : List CT} {cs : List SC} {xs : List X}, cellsData cts cs = some xs → ∀ (us : List Value), relS K.Φ K.ρ w gh cs us →
  xs.length = cts.length ∧ cts.length ≤ cs.length ∧ ∀ j ct, cts[j]? = some ct → Rep w gh.F ct (us.getD j undef) (((consX xs).ds K.Φ K.ρ).getD j default)
 | cts, cs, xs, h => by
  unfold cellsData at h
  split at h
  ·simp only [si0] at h
   subst h
   intro us _
   exact ⟨rfl, Nat.zero_le _, by simp⟩
  ·rename_i ct cts ct' e cs
   split at h
   ·rename_i hct
    have := CT.beq_eq _ _ hct
    subst this
    cases hr : cellsData cts cs with
    | none => simp [hr] at h
    | some ys =>
     simp only [hr, Option.map_some, si0] at h
     subst h
     intro us hrel
     cases us with
     | nil => exact hrel.elim
     | cons u us =>
      obtain ⟨i1, i2, i3⟩ := cellsData_rep hr _ hrel.2
      refine ⟨by simp [i1], by simpa using i2, fun j ct hj => ?_⟩
      cases j with
      | zero =>
       simp only [List.getElem?_cons_zero, si0] at hj
       subst hj
       simp only [consX, X.ds, gz0]
       exact hrel.1
      | succ j => simpa [consX, X.ds] using i3 j ct (by simpa using hj)
   ·cases h
  ·rename_i e1 cts1 cts cs
   cases hr : cellsData cts cs with
   | none => simp [hr] at h
   | some ys =>
    simp only [hr, Option.map_some, si0] at h
    subst h
    intro us hrel
    cases us with
    | nil => exact hrel.elim
    | cons u us =>
     obtain ⟨i1, i2, i3⟩ := cellsData_rep hr _ hrel.2
     refine ⟨by simp [i1], by simpa using i2, fun j ct hj => ?_⟩
     cases j with
     | zero =>
      simp only [List.getElem?_cons_zero, si0] at hj
      subst hj
      obtain ⟨hv, _⟩ := hrel.1
      subst hv
      simp only [consX, X.ds, gz0]
      exact Rep.nil
     | succ j => simpa [consX, X.ds] using i3 j ct (by simpa using hj)
  ·cases h
theorem ds_consX_length (xs : List X) : ((consX xs).ds K.Φ K.ρ).length = xs.length := by
 induction xs with
 | nil => rfl
 | cons x xs ih => simp [consX, X.ds, ih]
theorem splice_length {e cs : List D} {j : Nat} (h : j + cs.length ≤ e.length) : (splice e j cs).length = e.length := by
 simp [splice]; omega
theorem splice_get {e cs : List D} {j : Nat} (h : j + cs.length ≤ e.length) (k : Nat) : (splice e j cs).getD k default = if j ≤ k ∧ k < j + cs.length then cs.getD (k - j) default else e.getD k default := by
 simp only [splice, List.getD]
 by_cases h1 : k < j
 ·rw [if_neg (by omega), List.append_assoc, List.getElem?_append_left (by simp; omega), List.getElem?_take, if_pos h1]
 ·by_cases h2 : k < j + cs.length
  ·rw [if_pos (by omega), List.getElem?_append_left (by simp; omega), List.getElem?_append_right (by simp; omega)]
   congr 2
   simp; omega
  ·rw [if_neg (by omega), List.getElem?_append_right (by simp; omega), List.getElem?_drop]
   congr 2
   simp; omega
theorem seg_get {α : Type} (l u : List α) (p k : Nat) (h : p + u.length ≤ l.length) : (l.take p ++ u ++ l.drop (p + u.length))[k]? = if p ≤ k ∧ k < p + u.length then u[k - p]? else l[k]? := by
 rw [List.append_assoc]
 by_cases h1 : k < p
 ·rw [if_neg (by omega), List.getElem?_append_left (by simp; omega), List.getElem?_take, if_pos h1]
 ·have hm : min p l.length = p := by omega
  by_cases h2 : k < p + u.length
  ·rw [if_pos (by omega), List.getElem?_append_right (by simp; omega), List.length_take, hm, List.getElem?_append_left (by omega)]
  ·rw [if_neg (by omega), List.getElem?_append_right (by simp; omega), List.length_take, hm, List.getElem?_append_right (by omega), List.getElem?_drop]
   congr 1
   omega
theorem store_row (h : Inv K σ gh a w) {r : Nat} {x : Res} (hx : σ.has r x) (hon : x.on K) {ety : TypeId} {cts : List CT} {content : X} {ver : Nat} (hk : x.k = .row ety cts content ver false) {b len cap : Nat}
  (hrv : gh.rv r = .slice (some ⟨b, 0, none⟩) len cap) {i : X} (hi0 : 0 ≤ (i.d K.Φ K.ρ).int) (hi1 : (i.d K.Φ K.ρ).int < len) {us : List Value} {cs : List SC} {off : Nat} {xs : List X}
  (hr : relS K.Φ K.ρ w gh cs us) (hoff : off + cs.length ≤ cts.length) (c1 : xs.length = ((cts.drop off).take cs.length).length)
  (c3 : ∀ j ct, ((cts.drop off).take cs.length)[j]? = some ct → Rep w gh.F ct (us.getD j undef) (((consX xs).ds K.Φ K.ρ).getD j default)) :
  ∃ cur, w.heap[b]? = some (.cells cur ety (0, 0)) ∧ ((i.d K.Φ K.ρ).int.toNat * cts.length + off) + us.length ≤ cur.size ∧
   Inv K ⟨σ.slots, σ.res.set r (some ⟨x.g, .row ety cts (.upd off content i (consX xs)) ver false⟩)⟩ gh a
    (w.setRow b (cur.toList.take ((i.d K.Φ K.ρ).int.toNat * cts.length + off) ++ us ++ cur.toList.drop (((i.d K.Φ K.ρ).int.toNat * cts.length + off) + us.length)).toArray) := by
 have hok := h.res r x hx hon
 rw [hk] at hok
 obtain ⟨hv1, hv2, hv3, zs, vals, hd, hown, hrep⟩ := hok
 rw [hrv] at hown
 rcases hown with ⟨_, _, _, hbad⟩ | ⟨g, cap', cur, hq, hc0, hl0, hg, hlc, hcm, hcs, htk⟩
 ·simp only [Value.slice.injEq] at hbad; omega
 simp only [Value.slice.injEq, si0, Addr.mk.injEq] at hq
 obtain ⟨⟨rfl, _⟩, rfl, rfl⟩ := hq
 obtain ⟨c9, rfl⟩ : ∃ c, cap = c + 1 := ⟨cap - 1, by omega⟩
 have hlt : r < σ.res.length := (List.getElem?_eq_some_iff.1 hx).1
 have hlive : x.k.live gh r = some b := by rw [hk]; simp [RK.live, hrv, ownB]
 obtain ⟨o1, o2, o3⟩ := h.own r x b hx hon hlive
 have e2 := relS_length hr
 have hcl : ((cts.drop off).take cs.length).length = cs.length := by simp; omega
 generalize hn : (i.d K.Φ K.ρ).int.toNat = n at *
 have hnl : n < zs.length := by omega
 have hpos : n * cts.length + off + us.length ≤ zs.length * cts.length := by
  have := mul_lt_bound (j := off + us.length) (m := cts.length) hnl (by omega)
  omega
 have hsz : zs.length * cts.length ≤ cur.size := by rw [hcs]; exact Nat.mul_le_mul_right _ hlc
 refine ⟨cur, hg, by omega, ?_⟩
 generalize hcs' : (cur.toList.take (n * cts.length + off) ++ us ++ cur.toList.drop (n * cts.length + off + us.length)).toArray = cs'
 have hFb : ∀ c, gh.F c → (w.setRow b cs').heap[c]? = w.heap[c]? := fun c hc => setRow_other w b c _ (by rintro rfl; exact o2 hc)
 refine h.step (T := fun q => q = r) ⟨Gh.le.refl gh, rfl, rfl, rfl, by simp, fun q hq => ⟨by simp [Ne.symm hq], rfl, rfl, rfl⟩,
  fun c hc hT => setRow_other w b c _ (by rintro rfl; exact hT r x rfl hx hon hlive), fun c hc => by have := h.Flt c hc; simpa using this, fun c hc => .inl hc,
  fun q y hT hy hony => ?_, fun q y c hT hy hony hl => ?_, fun q y q' y' c hT hT' _ _ _ _ _ _ => hT.trans hT'.symm, fun q c hT hb => ?_, fun q hT hr => ?_⟩
 ·subst hT
  rw [getElem?_set_has hlt] at hy
  simp only [si0] at hy
  subst hy
  have hX : ((X.upd off content i (consX xs)).d K.Φ K.ρ) = .l (zs.set n (splice (zs.getD n []) off ((consX xs).ds K.Φ K.ρ))) := by
   simp only [X.d, hd, D.lst_l, hn]
  refine ⟨hv1, hv2, hv3, _, (cs'.toList.take (zs.length * cts.length)), hX, ?_, ?_⟩
  ·rw [hrv]
   simp only [List.length_set]
   refine .inr ⟨b, c9 + 1, cs', rfl, hc0, ?_, setRow_get w b cur cs' ety (0, 0) hg, hlc, hcm, ?_, rfl⟩
   ·subst hcs'
    simp; omega
   ·subst hcs'
    simp; omega
  ·intro k hk'
   simp only [List.length_set] at hk'
   have hdl : ((consX xs).ds K.Φ K.ρ).length = us.length := by rw [ds_consX_length, c1, hcl, e2]
   have hzn := (hrep n hnl).1
   by_cases hkn : k = n
   ·subst hkn
    have hget : (zs.set k (splice (zs.getD k []) off ((consX xs).ds K.Φ K.ρ))).getD k [] = splice (zs.getD k []) off ((consX xs).ds K.Φ K.ρ) := by
     simp [List.getD, hk']
    rw [hget]
    refine ⟨by rw [splice_length (by rw [hzn, hdl]; omega)]; exact hzn, fun j ct hj => ?_⟩
    have hjl : j < cts.length := (List.getElem?_eq_some_iff.1 hj).1
    have hb1 := mul_lt_bound (j := j + 1) (m := cts.length) hk' (by omega)
    rw [splice_get (by rw [hzn, hdl]; omega), hdl]
    have hc' : (cs'.toList.take (zs.length * cts.length)).getD (k * cts.length + j) undef = if off ≤ j ∧ j < off + us.length then us.getD (j - off) undef else cur.getD (k * cts.length + j) undef := by
     rw [List.getD, List.getElem?_take, if_pos (by omega), ← hcs']
     rw [show (List.toArray (cur.toList.take (k * cts.length + off) ++ us ++ cur.toList.drop (k * cts.length + off + us.length))).toList = cur.toList.take (k * cts.length + off) ++ us ++ cur.toList.drop (k * cts.length + off + us.length) from rfl,
      seg_get _ _ _ _ (by simp; omega)]
     by_cases hin : off ≤ j ∧ j < off + us.length
     ·rw [if_pos hin, if_pos (by omega), List.getD]
      congr 2
      omega
     ·rw [if_neg hin, if_neg (by omega), Array.getD_eq_getD_getElem?, Array.getElem?_toList]
    rw [hc']
    by_cases hin : off ≤ j ∧ j < off + us.length
    ·rw [if_pos hin, if_pos hin]
     have := c3 (j - off) ct (by
      rw [List.getElem?_take, if_pos (by omega), List.getElem?_drop]
      rw [show off + (j - off) = j by omega]; exact hj)
     exact this.mono (fun _ h => h) hFb
    ·rw [if_neg hin, if_neg hin]
     have h2 := (hrep k hk').2 j ct hj
     have e3 : vals.getD (k * cts.length + j) undef = cur.getD (k * cts.length + j) undef := by
      rw [← htk, List.getD, List.getElem?_take, if_pos (by omega)]
      simp [Array.getD_eq_getD_getElem?]
     rw [e3] at h2
     exact h2.mono (fun _ h => h) hFb
   ·have hget : (zs.set n (splice (zs.getD n []) off ((consX xs).ds K.Φ K.ρ))).getD k [] = zs.getD k [] := by
     simp only [List.getD, List.getElem?_set]
     rw [if_neg (Ne.symm hkn)]
    rw [hget]
    refine ⟨(hrep k hk').1, fun j ct hj => ?_⟩
    have hjl : j < cts.length := (List.getElem?_eq_some_iff.1 hj).1
    have hb1 := mul_lt_bound (j := j + 1) (m := cts.length) hk' (by omega)
    have h2 := (hrep k hk').2 j ct hj
    have e3 : vals.getD (k * cts.length + j) undef = (cs'.toList.take (zs.length * cts.length)).getD (k * cts.length + j) undef := by
     rw [← htk, List.getD, List.getElem?_take, if_pos (by omega), List.getD, List.getElem?_take, if_pos (by omega), ← hcs']
     rw [show (List.toArray (cur.toList.take (n * cts.length + off) ++ us ++ cur.toList.drop (n * cts.length + off + us.length))).toList = cur.toList.take (n * cts.length + off) ++ us ++ cur.toList.drop (n * cts.length + off + us.length) from rfl,
      seg_get _ _ _ _ (by simp; omega)]
     rcases Nat.lt_or_ge k n with hlt' | hge
     ·have h3 := mul_lt_bound (i := k) (len := n) (j := j + 1) (m := cts.length) hlt' (by omega)
      rw [if_neg (by omega)]
     ·have h3 := mul_lt_bound (i := n) (len := k) (j := off + us.length) (m := cts.length) (by omega) (by omega)
      rw [if_neg (by omega)]
    rw [e3] at h2
    exact h2.mono (fun _ h => h) hFb
 ·subst hT
  rw [getElem?_set_has hlt] at hy
  simp only [si0] at hy
  subst hy
  simp only [RK.live, hrv, ownB, si0] at hl
  subst hl
  exact ⟨o1, o2, by simpa using o3, fun r2 x2 hT2 hx2 hon2 hl2 => hT2 (h.inj r2 x2 _ x b hx2 hon2 hx hon hl2 hlive)⟩
 ·subst hT
  exact ⟨_, getElem?_set_has hlt, hon⟩
 ·subst hT
  exact ⟨_, getElem?_set_has hlt, hon⟩
theorem frzArg_ok (h : Inv K σ gh a w) {G : X} (hG : (G.d K.Φ K.ρ).bool = true) {ct : CT} {s : SC} {k : X → RM} {eo : EO} {v : Value}
  (he : (frzArg G ct s k).run σ.res = some eo) (hs : SC.rel K.Φ K.ρ w gh s v) : ∃ e, (k e).run σ.res = some eo ∧ Rep w gh.F ct v (e.d K.Φ K.ρ) := by
 unfold frzArg at he
 split at he
 ·obtain ⟨_, h1, h2, h3⟩ := hs
  obtain ⟨R, hR, he2⟩ := RM.run_res he
  split at he2
  ·rename_i ety cts' content ver' hk
   split at he2
   ·rename_i hc
    simp only [Bool.and_eq_true, beq_iff_eq] at hc
    obtain ⟨⟨⟨hc1, rfl⟩, hc3⟩, rfl⟩ := hc
    have := CT.beqs_eq _ _ hc3
    subst this
    have hon : R.on K := entails_sound _ _ hc1 hG
    have hok := h.res _ R hR hon
    rw [hk] at hok
    have hv := h3 hok.1
    obtain ⟨_, _, _, hok⟩ := hok
    subst hv
    simp only [if_true] at hok
    exact ⟨content, he2, hok⟩
   ·exact (RM.run_fail he2).elim
  ·exact (RM.run_fail he2).elim
 ·obtain ⟨rfl, _⟩ := hs
  exact ⟨.lnil, he, .nil⟩
 ·rename_i ct' e
  split at he
  ·rename_i hct
   have := CT.beq_eq _ _ hct
   subst this
   exact ⟨e, he, hs⟩
  ·exact (RM.run_fail he).elim
 ·exact (RM.run_fail he).elim
theorem frzArgs_ok (h : Inv K σ gh a w) {G : X} (hG : (G.d K.Φ K.ρ).bool = true) : ∀ {cts : List CT} {cs : List SC} {k : List X → RM} {eo : EO} {us : List Value},
  (frzArgs G cts cs k).run σ.res = some eo → relS K.Φ K.ρ w gh cs us →
  ∃ xs, (k xs).run σ.res = some eo ∧ xs.length = cts.length ∧ ∀ j ct, cts[j]? = some ct → Rep w gh.F ct (us.getD j undef) (((consX xs).ds K.Φ K.ρ).getD j default)
 | [], [], k, eo, us, he, hr => ⟨[], he, rfl, by simp⟩
 | _ :: _, [], k, eo, us, he, hr => (RM.run_fail he).elim
 | [], _ :: _, k, eo, us, he, hr => (RM.run_fail he).elim
 | ct :: cts, c :: cs, k, eo, us, he, hr => by
  cases us with
  | nil => exact hr.elim
  | cons u us =>
   obtain ⟨e, he1, h1⟩ := frzArg_ok h hG he hr.1
   obtain ⟨es, he2, hl, h2⟩ := frzArgs_ok h hG he1 hr.2
   refine ⟨e :: es, he2, by simp [hl], fun j ct' hj => ?_⟩
   cases j with
   | zero => simp at hj; subst hj; simpa [consX, X.ds] using h1
   | succ j => simpa [consX, X.ds] using h2 j ct' (by simpa using hj)
theorem ite_d {i e e' : X} {j : Nat} : (X.ite (.bin .eq i (.n j)) e e').d K.Φ K.ρ = if (i.d K.Φ K.ρ).int = j then e.d K.Φ K.ρ else e'.d K.Φ K.ρ := by
 by_cases h : (i.d K.Φ K.ρ).int = j <;> simp [X.d, h, Op2.ev]
theorem iteCells_cons {ct : CT} {e i : X} {c : SC} {cs cs' : List SC} {j : Nat} (h : iteCells ct e i j (c :: cs) = some cs') : ∃ e' zs, c = .x ct e' ∧ iteCells ct e i (j + 1) cs = some zs ∧ cs' = .x ct (.ite (.bin .eq i (.n j)) e e') :: zs := by
 cases c with
 | x ct' e' =>
  unfold iteCells at h
  split at h
  ·rename_i hct
   rw [Option.map_eq_some_iff] at h
   obtain ⟨zs, h1, h2⟩ := h
   exact ⟨e', zs, by rw [CT.beq_eq _ _ hct], h1, h2.symm⟩
  ·cases h
 | _ => simp [iteCells] at h
theorem iteCells_skip {ct : CT} {e i : X} {w : World} : ∀ {cs cs' : List SC} {j : Nat} {vs : List Value}, iteCells ct e i j cs = some cs' → relS K.Φ K.ρ w gh cs vs → (i.d K.Φ K.ρ).int < j → relS K.Φ K.ρ w gh cs' vs
 | [], cs', j, vs, h, hr, _ => by simp only [iteCells, si0] at h; subst h; exact hr
 | c :: cs, cs', j, vs, h, hr, hj => by
  obtain ⟨e', zs, rfl, h1, rfl⟩ := iteCells_cons h
  cases vs with
  | nil => exact hr.elim
  | cons v vs => exact ⟨by simp only [SC.rel]; rw [ite_d, if_neg (by omega)]; exact hr.1, iteCells_skip h1 hr.2 (by omega)⟩
theorem iteCells_rel {ct : CT} {e i : X} {w : World} : ∀ {cs cs' : List SC} {j : Nat} {vs : List Value}, iteCells ct e i j cs = some cs' →
  relS K.Φ K.ρ w gh (cs.take ((i.d K.Φ K.ρ).int.toNat - j) ++ [.x ct e] ++ cs.drop ((i.d K.Φ K.ρ).int.toNat - j + 1)) vs → 0 ≤ (i.d K.Φ K.ρ).int → j ≤ (i.d K.Φ K.ρ).int.toNat → (i.d K.Φ K.ρ).int.toNat < j + cs.length → relS K.Φ K.ρ w gh cs' vs
 | [], cs', j, vs, h, hr, _, _, hl => by simp at hl; omega
 | c :: cs, cs', j, vs, h, hr, h0, hj, hl => by
  obtain ⟨e', zs, rfl, h1, rfl⟩ := iteCells_cons h
  cases vs with
  | nil =>
   have := relS_length hr
   simp at this
  | cons v vs =>
   by_cases he : (i.d K.Φ K.ρ).int.toNat = j
   ·rw [he, Nat.sub_self] at hr
    simp only [List.take_zero, List.nil_append, List.singleton_append, List.drop_succ_cons, List.drop_zero, Nat.zero_add] at hr
    exact ⟨by simp only [SC.rel]; rw [ite_d, if_pos (by omega)]; exact hr.1, iteCells_skip h1 hr.2 (by omega)⟩
   ·obtain ⟨q, hq⟩ : ∃ q, (i.d K.Φ K.ρ).int.toNat - j = q + 1 := ⟨(i.d K.Φ K.ρ).int.toNat - j - 1, by omega⟩
    have hq2 : (i.d K.Φ K.ρ).int.toNat - (j + 1) = q := by omega
    rw [hq] at hr
    simp only [List.take_succ_cons, List.cons_append, List.drop_succ_cons] at hr
    exact ⟨by simp only [SC.rel]; rw [ite_d, if_neg (by omega)]; exact hr.1, iteCells_rel h1 (by rw [hq2]; exact hr.2) h0 (by omega) (by simp at hl; omega)⟩
theorem iteCells_len {ct : CT} {e i : X} : ∀ {cs cs' : List SC} {j : Nat}, iteCells ct e i j cs = some cs' → cs'.length = cs.length
 | [], cs', j, h => by simp only [iteCells, si0] at h; subst h; rfl
 | c :: cs, cs', j, h => by
  obtain ⟨e', zs, rfl, h1, rfl⟩ := iteCells_cons h
  simp [iteCells_len h1]
theorem setRange_one {l : List SC} {base k m : Nat} {c : SC} (hk : k < m) (hm : base + m ≤ l.length) : setRange l (base + k) [c] = l.take base ++ (((l.drop base).take m).take k ++ [c] ++ ((l.drop base).take m).drop (k + 1)) ++ l.drop (base + m) := by
 have hT : ((l.drop base).take m).length = m := by simp; omega
 have hU : (((l.drop base).take m).take k ++ [c] ++ ((l.drop base).take m).drop (k + 1)).length = m := by
  simp only [List.length_append, List.length_take, List.length_drop, List.length_singleton]; omega
 have g1 := seg_get l [c] (base + k)
 have g2 := seg_get l (((l.drop base).take m).take k ++ [c] ++ ((l.drop base).take m).drop (k + 1)) base
 have g3 := seg_get ((l.drop base).take m) [c] k
 rw [hU] at g2
 simp only [List.length_singleton] at g1 g3
 unfold setRange
 apply List.ext_getElem?
 intro j
 rw [List.length_singleton, g1 j (by omega), g2 j (by omega)]
 by_cases h1 : base ≤ j ∧ j < base + m
 ·rw [if_pos h1, g3 _ (by omega)]
  by_cases h2 : base + k ≤ j ∧ j < base + k + 1
  ·rw [if_pos h2, if_pos (by omega)]
   congr 1; omega
  ·rw [if_neg h2, if_neg (by omega), List.getElem?_take, if_pos (by omega), List.getElem?_drop]
   congr 1; omega
 ·rw [if_neg h1, if_neg (by omega)]
theorem relS_split : ∀ {as bs : List SC} {vs : List Value} {w : World}, relS K.Φ K.ρ w gh (as ++ bs) vs → relS K.Φ K.ρ w gh as (vs.take as.length) ∧ relS K.Φ K.ρ w gh bs (vs.drop as.length)
 | [], _bs, _vs, _w, h => ⟨trivial, h⟩
 | _a :: _as, _bs, [], _w, h => h.elim
 | _a :: _as, _bs, _v :: _vs, _w, h => ⟨⟨h.1, (relS_split h.2).1⟩, (relS_split h.2).2⟩
theorem eff_store (h : Inv K σ gh a w) {t : TypeId} {x y : Operand} (ho : o.op = .store t x y) {G : X} (hG : (G.d K.Φ K.ρ).bool = true) {eo : EO}
  (he : (effStore P G t (strip G (σ.opd x)) (strip G (σ.opd y))).run σ.res = some eo) : EffOk K σ P o a w eo := by
 have hx := strip_rel hG (h.opd x)
 have hy := strip_rel hG (h.opd y)
 unfold effStore at he
 split at he
 ·rename_i cs r off hcs e
  rw [e] at hx
  obtain ⟨b, hβ, hv⟩ := hx
  obtain ⟨R, hR, he2⟩ := RM.run_res he
  split at he2
  ·rename_i ety cells frz hk
   split at he2
   ·rename_i hc
    simp only [Bool.and_eq_true, Bool.not_eq_eq_eq_not, Bool.not_true] at hc
    obtain ⟨⟨⟨⟨⟨hc1, hc2⟩, rfl⟩, hc4⟩, hc5⟩, hc6⟩ := hc
    have he3 := RM.run_done he2
    subst he3
    have hon : R.on K := isTt_sound hc2
    have hcr := cells_rel hcs hy hc6
    have hl := relS_length hcr
    simp only [Array.length_toList] at hl
    obtain ⟨cur, hg, hfit, hI⟩ := store_box h hR hon hk hβ hcr (Nat.le_of_ble_eq_true hc5)
    have hrun := run_storeVar (P := P) (v := a.eval y) (off := off) (by rw [← hl]; exact sizeEq_spec hc4) hg (by simpa using hfit) (relS_oneCell hcr hc6)
    have hrun2 : (execOp a.eval o).run P w = .ok .skip (w.setRow b (cur.toList.take off ++ (a.eval y).cells.toList ++ cur.toList.drop (off + (a.eval y).cells.toList.length)).toArray) := by
     simp only [execOp, ho, Instr.storeAt, Instr.sureAddr, hv, Sem.run_bind, Sem.run_pure, Result.andThen_ok, hrun]
    refine Does.skip hrun2 ⟨gh, ?_, rfl⟩
    ·simp only
     split
     ·rename_i hbe
      have := SC.beqs_eq hbe
      rw [this] at hI
      have e0 : (some ⟨R.g, .box ety cells false⟩ : Option Res) = some R := by rw [← hk]
      rw [e0, set_same hR] at hI
      exact hI
     ·exact hI
   ·exact (RM.run_fail he2).elim
  ·exact (RM.run_fail he2).elim
 ·rename_i cs r ver m i off hcs e
  rw [e] at hx
  obtain ⟨_, h1, h2, h3⟩ := hx
  split at he
  ·rename_i hna
   obtain ⟨R, hR, he2⟩ := RM.run_res he
   split at he2
   ·rename_i ety cts content ver' frz hk
    have hcr := cells_rel hcs hy hna
    have hl := relS_length hcr
    simp only [Array.length_toList] at hl
    obtain ⟨xs, he4, c1, c3⟩ := frzArgs_ok h hG he2 hcr
    split at he4
    ·rename_i hc
     simp only [Bool.and_eq_true, Bool.not_eq_eq_eq_not, Bool.not_true, beq_iff_eq] at hc
     obtain ⟨⟨⟨⟨⟨⟨hc1, hc2⟩, rfl⟩, rfl⟩, rfl⟩, hc4⟩, hc5⟩ := hc
     have he3 := RM.run_done he4
     subst he3
     have hon : R.on K := isTt_sound hc2
     have hoff := Nat.le_of_ble_eq_true hc5
     have hok := h.res r R hR hon
     rw [hk] at hok
     obtain ⟨b, len, cap, hrv, hi0, hi1, hv⟩ := h3 hok.1
     obtain ⟨cur, hg, hfit, hI⟩ := store_row h hR hon hk hrv hi0 hi1 hcr hoff c1 c3
     have hrun := run_storeVar (P := P) (v := a.eval y) (off := (i.d K.Φ K.ρ).int.toNat * cts.length + off) (by rw [← hl]; exact sizeEq_spec hc4) hg (by simpa using hfit) (relS_oneCell hcr hna)
     have hrun2 : (execOp a.eval o).run P w = .ok .skip (w.setRow b (cur.toList.take ((i.d K.Φ K.ρ).int.toNat * cts.length + off) ++ (a.eval y).cells.toList ++ cur.toList.drop (((i.d K.Φ K.ρ).int.toNat * cts.length + off) + (a.eval y).cells.toList.length)).toArray) := by
      simp only [execOp, ho, Instr.storeAt, Instr.sureAddr, hv, Sem.run_bind, Sem.run_pure, Result.andThen_ok, hrun]
     exact Does.skip hrun2 ⟨gh, hI, rfl⟩
    ·exact (RM.run_fail he4).elim
   ·exact (RM.run_fail he2).elim
  ·exact (RM.run_fail he).elim
 ·rename_i cs r base m i hcs e
  rw [e] at hx
  obtain ⟨b, hβ, hi0, hi1, hv⟩ := hx
  split at he
  ·rename_i ct ex
   obtain ⟨R, hR, he2⟩ := RM.run_res he
   split at he2
   ·rename_i ety cells frz hk
    split at he2
    ·rename_i cs' hit
     split at he2
     ·rename_i hc
      simp only [Bool.and_eq_true, Bool.not_eq_eq_eq_not, Bool.not_true] at hc
      obtain ⟨⟨⟨⟨hc1, hc2⟩, rfl⟩, hc4⟩, hc5⟩ := hc
      have he3 := RM.run_done he2
      subst he3
      have hon : R.on K := isTt_sound hc2
      have hcr := cells_rel hcs hy rfl
      have hl := relS_length hcr
      simp only [Array.length_toList] at hl
      have hm := Nat.le_of_ble_eq_true hc5
      have hseg : ((cells.drop base).take m).length = m := by simp; omega
      have hlt : (i.d K.Φ K.ρ).int.toNat < m := by omega
      have hlen := iteCells_len hit
      have hcl : ∀ {w : World} {vs : List Value}, relS K.Φ K.ρ w gh (setRange cells (base + (i.d K.Φ K.ρ).int.toNat) [.x ct ex]) vs → relS K.Φ K.ρ w gh (setRange cells base cs') vs := by
       intro w vs hrs
       rw [setRange_one hlt hm, List.append_assoc] at hrs
       obtain ⟨s1, s2⟩ := relS_split hrs
       obtain ⟨s2, s3⟩ := relS_split s2
       have s2 := iteCells_rel hit (by rw [Nat.sub_zero]; exact s2) hi0 (Nat.zero_le _) (by rw [hseg]; omega)
       have s123 := relS_append s1 (relS_append s2 s3)
       unfold setRange
       rw [hlen, hseg, List.append_assoc]
       rw [List.take_append_drop, List.take_append_drop] at s123
       exact s123
      obtain ⟨cur, hg, hfit, hI⟩ := store_box' h hR hon hk hβ hcr (off := base + (i.d K.Φ K.ρ).int.toNat) (by simp; omega) hcl
      have hrun := run_storeVar (P := P) (v := a.eval y) (off := base + (i.d K.Φ K.ρ).int.toNat) (by rw [← hl]; exact sizeEq_spec hc4) hg (by simpa using hfit) (relS_oneCell hcr rfl)
      have hrun2 : (execOp a.eval o).run P w = .ok .skip (w.setRow b (cur.toList.take (base + (i.d K.Φ K.ρ).int.toNat) ++ (a.eval y).cells.toList ++ cur.toList.drop (base + (i.d K.Φ K.ρ).int.toNat + (a.eval y).cells.toList.length)).toArray) := by
       simp only [execOp, ho, Instr.storeAt, Instr.sureAddr, hv, Sem.run_bind, Sem.run_pure, Result.andThen_ok, hrun]
      exact Does.skip hrun2 ⟨gh, hI, rfl⟩
     ·exact (RM.run_fail he2).elim
    ·exact (RM.run_fail he2).elim
   ·exact (RM.run_fail he2).elim
  ·exact (RM.run_fail he).elim
 ·exact (RM.run_fail he).elim
end
end Go.RV
namespace Go.RV
open Go.RowKit
def RepL (w : World) (F : Nat → Prop) : List CT → List Value → List D → Prop
 | [], [], [] => True
 | ct :: cts, v :: vs, d :: ds => Rep w F ct v d ∧ RepL w F cts vs ds
 | _, _, _ => False
def ShRep (w : World) (F : Nat → Prop) (sh : Bool × List CT) (v : Value) (ds : List D) : Prop :=
 ∃ us : List Value, (if sh.1 then v = .agg us.toArray else us = [v]) ∧ RepL w F sh.2 us ds
def ArgsRep (w : World) (F : Nat → Prop) : List (Bool × List CT) → List Value → List D → Prop
 | [], [], ds => ds = []
 | sh :: shs, v :: vs, ds => ∃ d1 d2, ds = d1 ++ d2 ∧ ShRep w F sh v d1 ∧ ArgsRep w F shs vs d2
 | _, _, _ => False
def ResRep (w : World) (F : Nat → Prop) (rs : List (Bool × List CT)) (v : Value) (ds : List D) : Prop := match rs with
 | [] => v = undef
 | [r] => ShRep w F r v ds
 | rs => ∃ us : Array Value, v = .tuple us ∧ ArgsRep w F rs us.toList ds
def OwnD (w : World) (F : Nat → Prop) (e : TypeId) (cts : List CT) (v : Value) (d : D) : Prop :=
 ∃ xs vals, d = .l xs ∧ OwnR w e cts.length v xs.length vals ∧ RowRep w F cts xs vals
def RepLO (w : World) (F : Nat → Prop) : List CT → List Value → List D → List Value → Prop
 | [], [], [], [] => True
 | .osl e cts :: cs, v :: vs, d :: ds, u :: us => v = u ∧ OwnD w F e cts v d ∧ RepLO w F cs vs ds us
 | ct :: cs, v :: vs, d :: ds, us => Rep w F ct v d ∧ RepLO w F cs vs ds us
 | _, _, _, _ => False
def ShRepO (w : World) (F : Nat → Prop) (sh : Bool × List CT) (v : Value) (ds : List D) (us : List Value) : Prop :=
 ∃ vs : List Value, (if sh.1 then v = .agg vs.toArray else vs = [v]) ∧ RepLO w F sh.2 vs ds us
def ArgsRepO (w : World) (F : Nat → Prop) : List (Bool × List CT) → List Value → List D → List Value → Prop
 | [], [], ds, us => ds = [] ∧ us = []
 | sh :: shs, v :: vs, ds, us => ∃ d1 d2 u1 u2, ds = d1 ++ d2 ∧ us = u1 ++ u2 ∧ ShRepO w F sh v d1 u1 ∧ ArgsRepO w F shs vs d2 u2
 | _, _, _, _ => False
def ResRepO (w : World) (F : Nat → Prop) (rs : List (Bool × List CT)) (v : Value) (ds : List D) (us : List Value) : Prop := match rs with
 | [] => v = undef ∧ us = []
 | [r] => ShRepO w F r v ds us
 | rs => ∃ vs : Array Value, v = .tuple vs ∧ ArgsRepO w F rs vs.toList ds us
def OwnNew (w w' : World) (F : Nat → Prop) (us : List Value) : Prop :=
 (∀ u ∈ us, ∀ b, ownB u = some b → w.heap.size ≤ b ∧ b < w'.heap.size ∧ ¬ F b) ∧ us.Pairwise fun u u' => ∀ b, ownB u = some b → ownB u' ≠ some b
def MPost (F : Nat → Prop) (w : World) (rs : List (Bool × List CT)) (out : List D) (e : Ending) (w' : World) : Prop :=
 ∃ v F' us, e = .returned v ∧ ResRepO w' F' rs v out us ∧ OwnNew w w' F' us ∧ (∀ b, F b → F' b) ∧ (∀ b, F' b → (F b ∨ w.heap.size ≤ b) ∧ b < w'.heap.size) ∧ Below w.heap.size w w'
def MeetsFn (P : Program) (f : FuncId) (S : Sig) (pre : List D → Prop) (fn : List D → List D) : Prop :=
 (∀ (args : Array Value) (w : World), (callFunc f args).run P w = .ok (.enter f args) w) ∧
 ∀ (w : World) (F : Nat → Prop) (vs : List Value) (ds : List D), (∀ b, F b → b < w.heap.size) → TabIn w F → ArgsRep w F S.ps vs ds → pre ds → Calls P f vs.toArray w (MPost F w S.rs (fn ds))
def MeetsDyn (P : Program) (S : Sig) (pre : List D → Prop) (fn : List D → List D) : Prop :=
 ∀ (w : World) (F : Nat → Prop) (v : Value) (vs : List Value) (ds : List D), (∀ b, F b → b < w.heap.size) → TabIn w F → ArgsRep w F S.ps (v :: vs) ds → pre ds →
  ∃ f vs', v = .func (.func f) #[] vs' ∧ (∀ w, (callFunc f (vs.toArray ++ vs')).run P w = .ok (.enter f (vs.toArray ++ vs')) w) ∧ Calls P f (vs.toArray ++ vs') w (MPost F w S.rs (fn ds))
def Meets (P : Program) (f : FuncId) (S : Sig) (pre : List D → Prop) (fn : List D → List D) : Prop :=
 if f < 20000 then MeetsFn P f S pre fn else MeetsDyn P S pre fn
theorem Meets.fn {P : Program} {f : FuncId} {S : Sig} {pre : List D → Prop} {fn : List D → List D} (h : Meets P f S pre fn) (hf : f < 20000) : MeetsFn P f S pre fn := by
 unfold Meets at h; rw [if_pos hf] at h; exact h
theorem Meets.dyn {P : Program} {f : FuncId} {S : Sig} {pre : List D → Prop} {fn : List D → List D} (h : Meets P f S pre fn) (hf : ¬ f < 20000) : MeetsDyn P S pre fn := by
 unfold Meets at h; rw [if_neg hf] at h; exact h
theorem MeetsFn.meets {P : Program} {f : FuncId} {S : Sig} {pre : List D → Prop} {fn : List D → List D} (h : MeetsFn P f S pre fn) (hf : f < 20000) : Meets P f S pre fn := by
 unfold Meets; rw [if_pos hf]; exact h
theorem MeetsDyn.meets {P : Program} {f : FuncId} {S : Sig} {pre : List D → Prop} {fn : List D → List D} (h : MeetsDyn P S pre fn) (hf : ¬ f < 20000) : Meets P f S pre fn := by
 unfold Meets; rw [if_neg hf]; exact h
def MeetsRow (P : Program) (f : FuncId) (S : Sig) (q : TypeId × List CT × List (Bool × List CT)) (pre : List D → Prop) (fn : List D → List D) : Prop :=
 (∀ (args : Array Value) (w : World), (callFunc f args).run P w = .ok (.enter f args) w) ∧
 ∀ (w : World) (F : Nat → Prop) (v : Value) (vs : List Value) (xs : List (List D)) (vals : List Value) (ds : List D), (∀ b, F b → b < w.heap.size) → TabIn w F → OwnR w q.1 q.2.1.length v xs.length vals → RowRep w F q.2.1 xs vals →
  (∀ b, ownB v = some b → ¬ F b ∧ b < w.heap.size) → ArgsRep w F q.2.2 vs ds → pre (.l xs :: ds) →
  Calls P f (v :: vs).toArray w fun e w' => ∃ v' xs' vals', fn (.l xs :: ds) = [.l xs'] ∧ OwnR w' q.1 q.2.1.length v' xs'.length vals' ∧ RowRep w F q.2.1 xs' vals' ∧ w.grownBy w' (ownB v) ∧
   (∀ b, ownB v' = some b → ownB v = some b ∨ (b = w.heap.size ∧ b < w'.heap.size)) ∧ (if S.rs.isEmpty then e = .returned undef ∧ v' = v else e = .returned v')
def MeetsP (P : Program) (f : FuncId) (S : Sig) (pre : List D → Prop) (fn : List D → List D) : Prop := match rowOf S with
 | some q => f < 20000 ∧ MeetsRow P f S q pre fn
 | none => Meets P f S pre fn
theorem MeetsP.row {P : Program} {f : FuncId} {S : Sig} {pre : List D → Prop} {fn : List D → List D} (h : MeetsP P f S pre fn) {q : TypeId × List CT × List (Bool × List CT)} (hq : rowOf S = some q) : MeetsRow P f S q pre fn := by
 unfold MeetsP at h; rw [hq] at h; exact h.2
theorem MeetsP.of {P : Program} {f : FuncId} {S : Sig} {pre : List D → Prop} {fn : List D → List D} (h : MeetsP P f S pre fn) (hq : rowOf S = none) : Meets P f S pre fn := by
 unfold MeetsP at h; rw [hq] at h; exact h
theorem Meets.p {P : Program} {f : FuncId} {S : Sig} {pre : List D → Prop} {fn : List D → List D} (h : Meets P f S pre fn) (hq : rowOf S = none) : MeetsP P f S pre fn := by
 unfold MeetsP; rw [hq]; exact h
section
variable {P : Program} {K : Ctx} {σ : St} {gh : Gh} {a : Act} {w : World} {o : Oper}
theorem RepL.mono {w' : World} {F F' : Nat → Prop} (hF : ∀ b, F b → F' b) (hw : ∀ b, F b → w'.heap[b]? = w.heap[b]?) : ∀ {cts : List CT} {vs : List Value} {ds : List D}, RepL w F cts vs ds → RepL w' F' cts vs ds
 | [], [], [], _ => trivial
 | _ :: _, _ :: _, _ :: _, h => ⟨h.1.mono hF hw, RepL.mono hF hw h.2⟩
theorem ShRep.mono {w' : World} {F F' : Nat → Prop} (hF : ∀ b, F b → F' b) (hw : ∀ b, F b → w'.heap[b]? = w.heap[b]?) {sh : Bool × List CT} {v : Value} {ds : List D} (h : ShRep w F sh v ds) : ShRep w' F' sh v ds :=
 let ⟨us, h1, h2⟩ := h; ⟨us, h1, h2.mono hF hw⟩
theorem ArgsRep.mono {w' : World} {F F' : Nat → Prop} (hF : ∀ b, F b → F' b) (hw : ∀ b, F b → w'.heap[b]? = w.heap[b]?) : ∀ {shs : List (Bool × List CT)} {vs : List Value} {ds : List D}, ArgsRep w F shs vs ds → ArgsRep w' F' shs vs ds
 | [], [], _, h => h
 | _ :: _, _ :: _, _, ⟨d1, d2, e, h1, h2⟩ => ⟨d1, d2, e, h1.mono hF hw, ArgsRep.mono hF hw h2⟩
theorem own_rep {e ety : TypeId} {cts : List CT} {v : Value} {xs : List (List D)} {vals : List Value} {F F' : Nat → Prop} (h : OwnR w ety cts.length v xs.length vals) (hr : RowRep w F cts xs vals) (hF : ∀ b, F b → F' b)
  (hb : ∀ b, ownB v = some b → F' b) : Rep w F' (.sl e cts) v (.l xs) := by
 rcases h with ⟨_, h0, q, rfl⟩ | ⟨g, cap, cur, rfl, h0, h1, hg, hl, hm, hs, ht⟩
 ·have : xs = [] := List.length_eq_zero_iff.1 h0
  subst this
  exact .nil
 ·obtain ⟨c, rfl⟩ : ∃ c, cap = c + 1 := ⟨cap - 1, by omega⟩
  refine .sl (hb g rfl) hg hl hm (by rw [hs]; omega) rfl (fun i hi => (hr i hi).1) fun i j ct hi hj => ?_
  have h3 := (hr i hi).2 j ct hj
  have hjl : j < cts.length := (List.getElem?_eq_some_iff.1 hj).1
  have hb1 := mul_lt_bound (j := j + 1) (m := cts.length) hi (by omega)
  have e3 : vals.getD (i * cts.length + j) undef = cur.getD (0 + i * cts.length + j) undef := by
   rw [← ht, List.getD, List.getElem?_take, if_pos (by omega)]
   simp [Array.getD_eq_getD_getElem?]
  rw [e3] at h3
  exact h3.mono hF fun _ _ => rfl
def FreezeOf (K : Ctx) (σ : St) (p : Nat × Res) : Prop :=
 ∃ x, σ.has p.1 x ∧ x.on K ∧ ((∃ ety cells, x.k = .box ety cells false ∧ p.2 = ⟨x.g, .box ety cells true⟩) ∨ (∃ ety cts content ver, x.k = .row ety cts content ver false ∧ p.2 = ⟨x.g, .row ety cts content ver true⟩))
theorem freeze_one (h : Inv K σ gh a w) {p : Nat × Res} (hp : FreezeOf K σ p) :
  ∃ gh', Inv K ⟨σ.slots, σ.res.set p.1 (some p.2)⟩ gh' a w ∧ gh.le gh' ∧ gh'.β = gh.β ∧ gh'.rv = gh.rv ∧ gh'.vr = gh.vr ∧ (∀ b, gh'.F b → gh.F b ∨ ∃ x, σ.has p.1 x ∧ x.on K ∧ x.k.live gh p.1 = some b) ∧
   (∀ x b, σ.has p.1 x → x.k.live gh p.1 = some b → gh'.F b) := by
 obtain ⟨x, hx, hon, hk⟩ := hp
 have hlt : p.1 < σ.res.length := (List.getElem?_eq_some_iff.1 hx).1
 let gh' : Gh := { gh with F := fun b => gh.F b ∨ x.k.live gh p.1 = some b }
 have hle : gh.le gh' := ⟨fun _ _ h => h, fun _ => Nat.le_refl _, fun _ _ _ => rfl, fun _ h => .inl h⟩
 refine ⟨gh', ?_, hle, rfl, rfl, rfl, fun b hb => ?_, fun y b hy hl => ?_⟩
 ·have hlive : p.2.k.live gh' p.1 = none := by
   rcases hk with ⟨_, _, _, e⟩ | ⟨_, _, _, _, _, e⟩ <;> rw [e] <;> rfl
  have hpon : p.2.on K := by rcases hk with ⟨_, _, _, e⟩ | ⟨_, _, _, _, _, e⟩ <;> rw [e] <;> exact hon
  refine h.step (T := fun q => q = p.1) ⟨hle, rfl, rfl, rfl, Nat.le_refl _, fun q hq => ⟨by simp [Ne.symm hq], rfl, rfl, rfl⟩, fun _ _ _ => rfl, fun b hb => ?_, fun b hb => ?_,
   fun q y hT hy hony => ?_, fun q y b hT hy hony hl => ?_, fun q y q' y' c hT hT' _ _ _ _ _ _ => hT.trans hT'.symm, fun q b hT hb => ?_, fun q hT hr => ?_⟩
  ·rcases hb with hb | hb
   ·exact h.Flt b hb
   ·exact (h.own _ x b hx hon hb).2.2
  ·rcases hb with hb | hb
   ·exact .inl hb
   ·exact .inr ⟨(h.own _ x b hx hon hb).1, fun r2 x2 hT2 hx2 hon2 hl2 => hT2 (h.inj r2 x2 p.1 x b hx2 hon2 hx hon hl2 hb)⟩
  ·subst hT
   rw [getElem?_set_has hlt] at hy
   simp only [si0] at hy
   subst hy
   have hok := h.res _ x hx hon
   rcases hk with ⟨ety, cells, hk, e⟩ | ⟨ety, cts, content, ver, hk, e⟩
   ·rw [hk] at hok
    obtain ⟨b, cur, h1, h2, h3, h4⟩ := hok
    rw [e]
    exact ⟨b, cur, h1, h2, relS_mono hle (fun _ _ => rfl) h3, fun _ => .inr (by rw [hk]; exact h1)⟩
   ·rw [hk] at hok
    obtain ⟨h1, h2, h3, xs, vals, h4, h5, h6⟩ := hok
    rw [e]
    refine ⟨h1, h2, h3, ?_⟩
    simp only [if_true]
    rw [h4]
    exact own_rep h5 h6 hle.F fun b hb => .inr (by rw [hk]; exact hb)
  ·subst hT
   rw [getElem?_set_has hlt] at hy
   simp only [si0] at hy
   subst hy
   rw [hlive] at hl
   cases hl
  ·subst hT
   exact ⟨_, getElem?_set_has hlt, hpon⟩
  ·subst hT
   exact ⟨_, getElem?_set_has hlt, hpon⟩
 ·rcases hb with hb | hb
  ·exact .inl hb
  ·exact .inr ⟨x, hx, hon, hb⟩
 ·unfold St.has at hx hy
  rw [hx] at hy
  simp only [si0] at hy
  subst hy
  exact .inr hl
theorem freeze_all : ∀ {wr : List (Nat × Res)} {σ : St} {gh : Gh} {w : World}, Inv K σ gh a w → (∀ p ∈ wr, FreezeOf K σ p) →
  ∃ gh', Inv K ⟨σ.slots, setAll σ.res wr⟩ gh' a w ∧ gh.le gh' ∧ gh'.β = gh.β ∧ gh'.rv = gh.rv ∧ gh'.vr = gh.vr ∧ (∀ p ∈ wr, ∀ x b, σ.has p.1 x → x.k.live gh p.1 = some b → gh'.F b) ∧
   (∀ b, gh'.F b → gh.F b ∨ ∃ r x, σ.has r x ∧ x.on K ∧ x.k.live gh r = some b)
 | [], σ, gh, w, h, _ => ⟨gh, h, Gh.le.refl gh, rfl, rfl, rfl, by simp, fun b hb => .inl hb⟩
 | p :: wr, σ, gh, w, h, hp => by
  obtain ⟨gh1, hI1, hle1, b1, r1, v1, f1, g1⟩ := freeze_one h (hp p (by simp))
  have hkeep : ∀ q ∈ wr, FreezeOf K ⟨σ.slots, σ.res.set p.1 (some p.2)⟩ q ∨ (q.1 = p.1 ∧ q.2 = p.2) := by
   intro q hq
   obtain ⟨x, hx, hon, hk⟩ := hp q (by simp [hq])
   by_cases e : q.1 = p.1
   ·right
    obtain ⟨y, hy, hony, hky⟩ := hp p (by simp)
    rw [e] at hx
    unfold St.has at hx hy
    rw [hx] at hy
    simp only [si0] at hy
    subst hy
    refine ⟨e, ?_⟩
    rcases hk with ⟨e1, c1, hk1, q1⟩ | ⟨e1, c1, d1, n1, hk1, q1⟩ <;> rcases hky with ⟨e2, c2, hk2, q2⟩ | ⟨e2, c2, d2, n2, hk2, q2⟩ <;> rw [hk1] at hk2 <;> cases hk2 <;> rw [q1, q2]
   ·left
    exact ⟨x, by unfold St.has at hx ⊢; simpa [Ne.symm e] using hx, hon, hk⟩
  have hdrop : ∀ (l : List (Nat × Res)) (rs : List (Option Res)), rs[p.1]? = some (some p.2) → (∀ q ∈ l, q.1 = p.1 → q.2 = p.2) → setAll rs l = setAll rs (l.filter fun q => !(q.1 == p.1)) ∧ True := by
   intro l
   induction l with
   | nil => intro rs _ _; exact ⟨rfl, trivial⟩
   | cons q l ih =>
    intro rs hrs hq
    by_cases e : q.1 = p.1
    ·have h2 := hq q (by simp) e
     have : rs.set q.1 (some q.2) = rs := by rw [e, h2]; exact set_same hrs
     simp only [List.filter_cons, e, beq_self_eq_true, Bool.not_true, fe0, if_false]
     rw [show setAll rs (q :: l) = setAll (rs.set q.1 (some q.2)) l from rfl, this]
     exact ih rs hrs fun q' hq' => hq q' (by simp [hq'])
    ·simp only [setAll, List.filter_cons, e, Bool.not_eq_eq_eq_not, Bool.not_true, beq_eq_false_iff_ne, ne_eq, not_false_eq_true, if_true]
     exact ih _ (by simp [e, hrs]) fun q' hq' => hq q' (by simp [hq'])
  have hlt : p.1 < σ.res.length := by obtain ⟨x, hx, _⟩ := hp p (by simp); exact (List.getElem?_eq_some_iff.1 hx).1
  have hd := (hdrop wr (σ.res.set p.1 (some p.2)) (getElem?_set_has hlt) (fun q hq e => by
   rcases hkeep q hq with ⟨x, hx, hon, hk⟩ | ⟨_, h2⟩
   ·
    exfalso
    have hx' : (σ.res.set p.1 (some p.2))[q.1]? = some (some x) := hx
    rw [e, getElem?_set_has hlt] at hx'
    simp only [si0] at hx'
    obtain ⟨y, _, _, hky⟩ := hp p (by simp)
    rcases hk with ⟨e1, c1, hk1, _⟩ | ⟨e1, c1, d1, n1, hk1, _⟩ <;> rcases hky with ⟨e2, c2, _, q2⟩ | ⟨e2, c2, d2, n2, _, q2⟩ <;> rw [← hx', q2] at hk1 <;> cases hk1
   ·exact h2)).1
  obtain ⟨gh2, hI2, hle2, b2, r2, v2, f2, g2⟩ := freeze_all (wr := wr.filter fun q => !(q.1 == p.1)) hI1 (fun q hq => by
   simp only [List.mem_filter, Bool.not_eq_eq_eq_not, Bool.not_true, beq_eq_false_iff_ne] at hq
   exact (hkeep q hq.1).resolve_right fun e => hq.2 e.1)
  refine ⟨gh2, ?_, ⟨fun r b hb => hle2.β r b (hle1.β r b hb), fun r => Nat.le_trans (hle1.vr r) (hle2.vr r), fun r h1 h2 => by rw [r2, r1], fun b hb => hle2.F b (hle1.F b hb)⟩, b2.trans b1, r2.trans r1, v2.trans v1, fun q hq x b hx hl => ?_, fun b hb => ?_⟩
  ·show Inv K ⟨σ.slots, setAll (σ.res.set p.1 (some p.2)) wr⟩ gh2 a w
   rw [hd]
   exact hI2
  ·by_cases e : q.1 = p.1
   ·rw [e] at hx hl
    exact hle2.F b (g1 x b hx hl)
   ·have hq' : q ∈ wr := by
     rcases List.mem_cons.1 hq with rfl | hq
     ·exact absurd rfl e
     ·exact hq
    refine f2 q (List.mem_filter.2 ⟨hq', by simp [e]⟩) x b (by unfold St.has at hx ⊢; simpa [Ne.symm e] using hx) ?_
    exact (RK.live_same (gh := gh) (gh' := gh1) x.k (by rw [b1]) (by rw [r1])).trans hl
  ·rcases g2 b hb with h1 | ⟨r, x, hx, hon, hl⟩
   ·rcases f1 b h1 with h2 | ⟨x, hx, hon, hl⟩
    ·exact .inl h2
    ·exact .inr ⟨p.1, x, hx, hon, hl⟩
   ·have hl0 := (RK.live_same (gh := gh) (gh' := gh1) x.k (r := r) (by rw [b1]) (by rw [r1])).symm.trans hl
    unfold St.has at hx
    by_cases e : r = p.1
    ·subst e
     rw [show (⟨σ.slots, σ.res.set p.1 (some p.2)⟩ : St).res = σ.res.set p.1 (some p.2) from rfl, getElem?_set_has hlt] at hx
     simp only [si0] at hx
     subst hx
     obtain ⟨y, _, _, hky⟩ := hp p (by simp)
     rcases hky with ⟨e2, c2, _, q2⟩ | ⟨e2, c2, d2, n2, _, q2⟩ <;> rw [q2] at hl <;> cases hl
    ·exact .inr ⟨r, x, by unfold St.has; simpa [Ne.symm e] using hx, hon, hl0⟩
termination_by wr => wr.length
decreasing_by
 simp only [List.length_cons]
 have := List.length_filter_le (fun q : Nat × Res => !(q.1 == p.1)) wr
 omega
def CellOk (K : Ctx) (σ : St) (w : World) (gh : Gh) (fz : Bool) (wr : List (Nat × Res)) (R : (Nat → Prop) → Prop) : Prop :=
 (∀ p ∈ wr, FreezeOf K σ p) ∧ R (fun b => b < w.heap.size) ∧
  (fz = true → ∀ F' : Nat → Prop, (∀ b, gh.F b → F' b) → (∀ p ∈ wr, ∀ x b, σ.has p.1 x → x.k.live gh p.1 = some b → F' b) → R F')
theorem flatArg_ok (h : Inv K σ gh a w) {G : X} (hG : (G.d K.Φ K.ρ).bool = true) {fz : Bool} {ct : CT} {s : SC} {k : X → List (Nat × Res) → RM} {eo : EO} {v : Value}
  (he : (flatArg G fz ct s k).run σ.res = some eo) (hs : SC.rel K.Φ K.ρ w gh s v) :
  ∃ e wr, (k e wr).run σ.res = some eo ∧ CellOk K σ w gh fz wr (fun F' => Rep w F' ct v (e.d K.Φ K.ρ)) := by
 have hall : ∀ b, gh.F b → b < w.heap.size := h.Flt
 unfold flatArg at he
 split at he
 ·rename_i e cts r ver
  obtain ⟨_, h1, h2, h3⟩ := hs
  obtain ⟨R, hR, he2⟩ := RM.run_res he
  split at he2
  ·rename_i ety cts' content ver' frz hk
   split at he2
   ·rename_i hc
    simp only [Bool.and_eq_true, beq_iff_eq] at hc
    obtain ⟨⟨⟨hc1, rfl⟩, hc3⟩, rfl⟩ := hc
    have := CT.beqs_eq _ _ hc3
    subst this
    have hon : R.on K := entails_sound _ _ hc1 hG
    have hok := h.res r R hR hon
    rw [hk] at hok
    have hv := h3 hok.1
    obtain ⟨_, _, _, hok⟩ := hok
    subst hv
    cases frz with
    | true =>
     simp only [if_true] at hok
     refine ⟨content, [], by simpa using he2, by simp, hok.mono hall fun _ _ => rfl, fun _ F' hF' _ => hok.mono hF' fun _ _ => rfl⟩
    | false =>
     simp only [fe0, if_false] at hok
     obtain ⟨xs, vals, hd, hown, hrep⟩ := hok
     have hlb : ∀ b, ownB (gh.rv r) = some b → R.k.live gh r = some b := fun b hb => by rw [hk]; exact hb
     refine ⟨content, _, he2, ?_, ?_, ?_⟩
     ·intro p hp
      split at hp
      ·simp only [List.mem_singleton] at hp
       subst hp
       exact ⟨R, hR, hon, .inr ⟨_, _, _, _, hk, rfl⟩⟩
      ·simp at hp
     ·rw [hd]
      exact own_rep hown hrep hall fun b hb => (h.own r R b hR hon (hlb b hb)).2.2
     ·intro hfz F' hF' hwr
      rw [hd]
      refine own_rep hown hrep hF' fun b hb => ?_
      subst hfz
      exact hwr (r, ⟨R.g, .row ety cts' content ver true⟩) (by simp) R b hR (hlb b hb)
   ·exact (RM.run_fail he2).elim
  ·exact (RM.run_fail he2).elim
 ·obtain ⟨rfl, _⟩ := hs
  exact ⟨.lnil, [], he, by simp, .nil, fun _ _ _ _ => .nil⟩
 ·rename_i ct' e
  split at he
  ·rename_i hct
   have := CT.beq_eq _ _ hct
   subst this
   have hs' : Rep w gh.F _ v (e.d K.Φ K.ρ) := hs
   exact ⟨e, [], he, by simp, hs'.mono hall fun _ _ => rfl, fun _ F' hF' _ => hs'.mono hF' fun _ _ => rfl⟩
  ·exact (RM.run_fail he).elim
 ·exact (RM.run_fail he).elim
theorem CellOk.append {fz : Bool} {wr wr' : List (Nat × Res)} {R R' R'' : (Nat → Prop) → Prop} (h1 : CellOk K σ w gh fz wr R) (h2 : CellOk K σ w gh fz wr' R') (h : ∀ F, R F → R' F → R'' F) : CellOk K σ w gh fz (wr ++ wr') R'' :=
 ⟨fun p hp => (List.mem_append.1 hp).elim (h1.1 p) (h2.1 p), h _ h1.2.1 h2.2.1, fun hfz F' hF' hwr => h _ (h1.2.2 hfz F' hF' fun p hp => hwr p (by simp [hp])) (h2.2.2 hfz F' hF' fun p hp => hwr p (by simp [hp]))⟩
theorem ds_consXa (xs : List X) : (consX xs).ds K.Φ K.ρ = xs.map (X.d K.Φ K.ρ) := by
 induction xs with
 | nil => rfl
 | cons x xs ih => simp [consX, X.ds, ih]
theorem boxArgs_ok (h : Inv K σ gh a w) {G : X} (hG : (G.d K.Φ K.ρ).bool = true) {fz : Bool} : ∀ {cts : List CT} {cells : List SC} {k : List X → List (Nat × Res) → RM} {eo : EO} {vs : List Value},
  (boxArgs G fz cts cells k).run σ.res = some eo → relS K.Φ K.ρ w gh cells vs →
  ∃ xs wr, (k xs wr).run σ.res = some eo ∧ xs.length = cts.length ∧ CellOk K σ w gh fz wr (fun F' => ∀ j ct, cts[j]? = some ct → Rep w F' ct (vs.getD j undef) ((xs.map (X.d K.Φ K.ρ)).getD j default))
 | [], cells, k, eo, vs, he, hr => ⟨[], [], he, rfl, by simp, fun j ct hj => by simp at hj, fun _ _ _ _ j ct hj => by simp at hj⟩
 | _ :: _, [], k, eo, vs, he, hr => (RM.run_fail he).elim
 | ct :: cts, c :: cs, k, eo, vs, he, hr => by
  cases vs with
  | nil => exact hr.elim
  | cons v vs =>
   obtain ⟨e, wr, he1, h1⟩ := flatArg_ok h hG he hr.1
   obtain ⟨es, wr', he2, hl, h2⟩ := boxArgs_ok h hG he1 hr.2
   refine ⟨e :: es, wr ++ wr', he2, by simp [hl], h1.append h2 fun F r1 r2 j ct' hj => ?_⟩
   cases j with
   | zero => simp at hj; subst hj; simpa using r1
   | succ j => simpa using r2 j ct' (by simpa using hj)
theorem cellArg1_ok (h : Inv K σ gh a w) {G : X} (hG : (G.d K.Φ K.ρ).bool = true) {fz : Bool} {ct : CT} {s : SC} {k : X → List (Nat × Res) → RM} {eo : EO} {v : Value}
  (he : (cellArg1 G fz ct s k).run σ.res = some eo) (hs : SC.rel K.Φ K.ρ w gh s v) :
  ∃ e wr, (k e wr).run σ.res = some eo ∧ CellOk K σ w gh fz wr (fun F' => Rep w F' ct v (e.d K.Φ K.ρ)) := by
 have hall : ∀ b, gh.F b → b < w.heap.size := h.Flt
 unfold cellArg1 at he
 split at he
 ·rename_i cts r off
  obtain ⟨b, hβ, rfl⟩ := hs
  obtain ⟨R, hR, he2⟩ := RM.run_res he
  split at he2
  ·rename_i ety cells frz hk
   split at he2
   ·rename_i hc
    simp only [Bool.and_eq_true] at hc
    have hon : R.on K := entails_sound _ _ hc.1 hG
    have hle := Nat.le_of_ble_eq_true hc.2
    have hok := h.res r R hR hon
    rw [hk] at hok
    obtain ⟨b', cur, hb', hg, hrel, hfr⟩ := hok
    obtain rfl : b' = b := Option.some.inj (hb'.symm.trans hβ)
    have hlen := relS_length hrel
    simp only [Array.length_toList] at hlen
    obtain ⟨xs, wr, he3, c1, c2⟩ := boxArgs_ok h hG he2 (relS_drop off hrel)
    have hmk : ∀ F' : Nat → Prop, (∀ j ct, cts[j]? = some ct → Rep w F' ct ((cur.toList.drop off).getD j undef) ((xs.map (X.d K.Φ K.ρ)).getD j default)) → F' b' → Rep w F' (.pt cts) (.pointer (some ⟨b', off, none⟩)) ((X.pk (consX xs)).d K.Φ K.ρ) := by
     intro F' hx hb
     have e0 : (consX xs).ds K.Φ K.ρ = xs.map (X.d K.Φ K.ρ) := ds_consXa xs
     have e2 : (X.pk (consX xs)).d K.Φ K.ρ = .p (xs.map (X.d K.Φ K.ρ)) := by rw [← e0]; rfl
     rw [e2]
     refine .pt hb hg (by omega) (by simpa using c1) fun j ct hj => ?_
     have e1 : (cur.toList.drop off).getD j undef = cur.getD (off + j) undef := by simp [List.getD, Array.getD_eq_getD_getElem?]
     rw [← e1]
     exact hx j ct hj
    have hblt : b' < w.heap.size := (Array.getElem?_eq_some_iff.1 hg).1
    refine ⟨.pk (consX xs), _, he3, ?_, hmk _ c2.2.1 hblt, ?_⟩
    ·intro p hp
     rcases List.mem_append.1 hp with hp | hp
     ·exact c2.1 p hp
     ·split at hp
      ·rename_i hcond
       simp only [List.mem_singleton] at hp
       simp only [Bool.and_eq_true, Bool.not_eq_eq_eq_not, Bool.not_true] at hcond
       subst hp
       exact ⟨R, hR, hon, .inl ⟨_, _, by rw [hk, hcond.2], rfl⟩⟩
      ·simp at hp
    ·intro hfz F' hF' hwr
     refine hmk F' (c2.2.2 hfz F' hF' fun p hp => hwr p (by simp [hp])) ?_
     cases frz with
     | true => exact hF' _ (hfr rfl)
     | false =>
      subst hfz
      exact hwr (r, ⟨R.g, .box ety cells true⟩) (by simp) R b' hR (by rw [hk]; exact hβ)
   ·exact (RM.run_fail he2).elim
  ·exact (RM.run_fail he2).elim
 ·exact flatArg_ok h hG he hs
theorem cellArg0_ok (h : Inv K σ gh a w) {G : X} (hG : (G.d K.Φ K.ρ).bool = true) {fz : Bool} {ct : CT} {s : SC} {k : X → List (Nat × Res) → RM} {eo : EO} {v : Value}
  (he : (cellArg0 G fz ct s k).run σ.res = some eo) (hs : SC.rel K.Φ K.ρ w gh s v) :
  ∃ e wr, (k e wr).run σ.res = some eo ∧ CellOk K σ w gh fz wr (fun F' => Rep w F' ct v (e.d K.Φ K.ρ)) := by
 unfold cellArg0 at he
 split at he
 ·split at he
  ·obtain ⟨e, wr, he1, h1, h2, h3⟩ := cellArg1_ok h hG he hs
   exact ⟨e, wr, he1, h1, .pns h2, fun hfz F' hF' hwr => .pns (h3 hfz F' hF' hwr)⟩
  ·split at he
   ·obtain ⟨rfl, _⟩ := hs
    exact ⟨_, [], he, by simp, .pnz, fun _ _ _ _ => .pnz⟩
   ·exact cellArg1_ok h hG he hs
 ·exact cellArg1_ok h hG he hs
theorem repL_get0 {F : Nat → Prop} : ∀ {cts : List CT} {vs : List Value} {ds : List D}, RepL w F cts vs ds → ∀ (j : Nat) ct, cts[j]? = some ct → Rep w F ct (vs.getD j undef) (ds.getD j default)
 | [], [], [], _, j, ct, h => by simp at h
 | _ :: _, _ :: _, _ :: _, h, 0, ct, hc => by simp at hc; subst hc; simpa using h.1
 | _ :: _, _ :: _, _ :: _, h, j + 1, ct, hc => by simpa using repL_get0 h.2 j ct (by simpa using hc)
theorem repL_len {F : Nat → Prop} : ∀ {cts : List CT} {vs : List Value} {ds : List D}, RepL w F cts vs ds → ds.length = cts.length ∧ vs.length = cts.length
 | [], [], [], _ => ⟨rfl, rfl⟩
 | _ :: _, _ :: _, _ :: _, h => by have := repL_len h.2; simp [this.1, this.2]
theorem ds_consX0 (xs : List X) : (consX xs).ds K.Φ K.ρ = xs.map (X.d K.Φ K.ρ) := by
 induction xs with
 | nil => rfl
 | cons x xs ih => simp [consX, X.ds, ih]
theorem capsArg_ok (h : Inv K σ gh a w) {G : X} (hG : (G.d K.Φ K.ρ).bool = true) {fz : Bool} : ∀ {caps : List (Nat × Nat)} {k : List CT → List X → List (Nat × Res) → RM} {eo : EO} {vs : List Value},
  (capsArg G fz caps k).run σ.res = some eo → vs.length = caps.length → (∀ (j : Nat) c, caps[j]? = some c → SC.rel K.Φ K.ρ w gh (.ptr c.1 c.2) (vs.getD j undef)) →
  ∃ ctss es wr, (k ctss es wr).run σ.res = some eo ∧ CellOk K σ w gh fz wr (fun F' => RepL w F' ctss vs (es.map (X.d K.Φ K.ρ)))
 | [], k, eo, vs, he, hl, hr => by
  cases vs with
  | nil => exact ⟨[], [], [], he, by simp, trivial, fun _ _ _ _ => trivial⟩
  | cons => simp at hl
 | c :: caps, k, eo, vs, he, hl, hr => by
  cases vs with
  | nil => simp at hl
  | cons v vs =>
   unfold capsArg at he
   obtain ⟨R, hR, he⟩ := RM.run_res he
   split at he
   ·split at he
    ·obtain ⟨e, wr, he1, h1⟩ := cellArg0_ok h hG he (by simpa using hr 0 c rfl)
     obtain ⟨ctss, es, wr', he2, h2⟩ := capsArg_ok h hG he1 (by simpa using hl) (fun j c hc => by simpa using hr (j + 1) c (by simpa using hc))
     refine ⟨_, e :: es, wr ++ wr', he2, ?_⟩
     exact ⟨fun p hp => (List.mem_append.1 hp).elim (h1.1 p) (h2.1 p), ⟨h1.2.1, h2.2.1⟩, fun hfz F' hF' hwr => ⟨h1.2.2 hfz F' hF' fun p hp => hwr p (by simp [hp]), h2.2.2 hfz F' hF' fun p hp => hwr p (by simp [hp])⟩⟩
    ·exact (RM.run_fail he).elim
   ·exact (RM.run_fail he).elim
theorem cellArg_ok (h : Inv K σ gh a w) {G : X} (hG : (G.d K.Φ K.ρ).bool = true) {fz : Bool} {ct : CT} {s : SC} {k : X → List (Nat × Res) → RM} {eo : EO} {v : Value}
  (he : (cellArg G fz ct s k).run σ.res = some eo) (hs : SC.rel K.Φ K.ρ w gh s v) :
  ∃ e wr, (k e wr).run σ.res = some eo ∧ CellOk K σ w gh fz wr (fun F' => Rep w F' ct v (e.d K.Φ K.ρ)) := by
 unfold cellArg at he
 split at he
 ·rename_i f caps
  obtain ⟨vs, rfl, hsz, hb⟩ := hs
  obtain ⟨ctss, es, wr, he2, h1, h2, h3⟩ := capsArg_ok h hG he (vs := vs.toList) (by simpa using hsz) fun j c hc => by
   obtain ⟨b, hb1, hb2⟩ := hb j c hc
   refine ⟨b, hb1, ?_⟩
   rw [← hb2]
   simp [List.getD, Array.getD_eq_getD_getElem?]
  have mk : ∀ F' : Nat → Prop, RepL w F' ctss vs.toList (es.map (X.d K.Φ K.ρ)) → Rep w F' .clo (.func (.func f) #[] vs) ((X.clo f ctss (consX es)).d K.Φ K.ρ) := by
   intro F' hr
   obtain ⟨l1, l2⟩ := repL_len hr
   show Rep w F' .clo (.func (.func f) #[] vs) (.c f ctss ((consX es).ds K.Φ K.ρ))
   rw [ds_consX0]
   refine .clo (by simpa using l2) l1 fun j ct hj => ?_
   have := repL_get0 hr j ct hj
   have e : vs.toList.getD j undef = vs.getD j undef := by simp [List.getD, Array.getD_eq_getD_getElem?]
   rw [e] at this
   exact this
  exact ⟨_, wr, he2, h1, mk _ h2, fun hfz F' hF' hwr => mk F' (h3 hfz F' hF' hwr)⟩
 ·exact cellArg0_ok h hG he hs
theorem cellsArg_ok (h : Inv K σ gh a w) {G : X} (hG : (G.d K.Φ K.ρ).bool = true) {fz : Bool} : ∀ {cts : List CT} {cs : List SC} {k : List X → List (Nat × Res) → RM} {eo : EO} {vs : List Value},
  (cellsArg G fz cts cs k).run σ.res = some eo → relS K.Φ K.ρ w gh cs vs → ∃ es wr, (k es wr).run σ.res = some eo ∧ CellOk K σ w gh fz wr (fun F' => RepL w F' cts vs (es.map (X.d K.Φ K.ρ)))
 | [], [], k, eo, vs, he, hr => by
  cases vs with
  | nil => exact ⟨[], [], he, by simp, trivial, fun _ _ _ _ => trivial⟩
  | cons => exact hr.elim
 | ct :: cts, c :: cs, k, eo, vs, he, hr => by
  cases vs with
  | nil => exact hr.elim
  | cons v vs =>
   obtain ⟨e, wr, he1, h1⟩ := cellArg_ok h hG he hr.1
   obtain ⟨es, wr', he2, h2⟩ := cellsArg_ok h hG he1 hr.2
   exact ⟨e :: es, wr ++ wr', he2, h1.append h2 fun F r1 r2 => ⟨r1, r2⟩⟩
 | [], _ :: _, k, eo, vs, he, hr => by simp [cellsArg, RM.run] at he
 | _ :: _, [], k, eo, vs, he, hr => by simp [cellsArg, RM.run] at he
theorem argCells_rel {ag : Bool} {s : SV} {cs : List SC} (h : argCells ag s = some cs) {v : Value} (hs : SV.rel K.Φ K.ρ w gh s v) : ∃ us : List Value, (if ag then v = .agg us.toArray else us = [v]) ∧ relS K.Φ K.ρ w gh cs us := by
 unfold argCells at h
 split at h
 ·split at h
  ·rename_i hag
   simp only [si0] at h
   subst h
   obtain ⟨us, rfl, hr⟩ := hs
   exact ⟨us.toList, by rw [if_pos hag], hr⟩
  ·cases h
 ·split at h
  ·cases h
  ·rename_i hag
   simp only [si0] at h
   subst h
   exact ⟨[v], by rw [if_neg hag], hs, trivial⟩
 ·cases h
theorem argsX_ok (h : Inv K σ gh a w) {G : X} (hG : (G.d K.Φ K.ρ).bool = true) {fz : Bool} : ∀ {ps : List (Bool × List CT)} {svs : List SV} {k : List X → List (Nat × Res) → RM} {eo : EO} {vs : List Value},
  (argsX G fz ps svs k).run σ.res = some eo → svs.length = vs.length → (∀ (j : Nat) s v, svs[j]? = some s → vs[j]? = some v → SV.rel K.Φ K.ρ w gh s v) →
  ∃ es wr, (k es wr).run σ.res = some eo ∧ CellOk K σ w gh fz wr (fun F' => ArgsRep w F' ps vs (es.map (X.d K.Φ K.ρ)))
 | [], [], k, eo, vs, he, hl, hr => by
  cases vs with
  | nil => exact ⟨[], [], he, by simp, rfl, fun _ _ _ _ => rfl⟩
  | cons => simp at hl
 | p :: ps, s :: svs, k, eo, vs, he, hl, hr => by
  cases vs with
  | nil => simp at hl
  | cons v vs =>
   unfold argsX at he
   split at he
   ·rename_i cs hcs
    obtain ⟨us, hus, hrel⟩ := argCells_rel hcs (hr 0 s v rfl rfl)
    obtain ⟨es, wr, he1, h1⟩ := cellsArg_ok h hG he hrel
    obtain ⟨es', wr', he2, h2⟩ := argsX_ok h hG he1 (by simpa using hl) (fun j s v hs hv => hr (j + 1) s v (by simpa using hs) (by simpa using hv))
    exact ⟨es ++ es', wr ++ wr', he2, h1.append h2 fun F r1 r2 => ⟨_, _, by simp, ⟨us, hus, r1⟩, r2⟩⟩
   ·exact (RM.run_fail he).elim
 | [], _ :: _, k, eo, vs, he, hl, hr => by simp [argsX, RM.run] at he
 | _ :: _, [], k, eo, vs, he, hl, hr => by simp [argsX, RM.run] at he
theorem ds_consX (xs : List X) : (consX xs).ds K.Φ K.ρ = xs.map (X.d K.Φ K.ρ) := by
 induction xs with
 | nil => rfl
 | cons x xs ih => simp [consX, X.ds, ih]
theorem Rep.scalar {w' : World} {F F' : Nat → Prop} {ct : CT} (hc : scalarCT ct = true) {v : Value} {d : D} (h : Rep w F ct v d) : Rep w' F' ct v d := by
 cases h with
 | int h => exact .int h
 | bool => exact .bool
 | str h => exact .str h
 | nil => cases hc
 | sl => cases hc
 | pt => cases hc
 | pnz => cases hc
 | pns => cases hc
 | clo => cases hc
 | ifc => cases hc
theorem RepL.scalar {w' : World} {F F' : Nat → Prop} : ∀ {cts : List CT} (_ : cts.all scalarCT = true) {vs : List Value} {ds : List D}, RepL w F cts vs ds → RepL w' F' cts vs ds
 | [], _, [], [], _ => trivial
 | ct :: cts, hc, _ :: _, _ :: _, h => by
  simp only [List.all_cons, Bool.and_eq_true] at hc
  exact ⟨h.1.scalar hc.1, RepL.scalar hc.2 h.2⟩
theorem ResRep.scalar {w' : World} {F F' : Nat → Prop} {rs : List (Bool × List CT)} (hc : scalars rs = true) {v : Value} {ds : List D} (h : ResRep w F rs v ds) : ResRep w' F' rs v ds := by
 have one : ∀ {sh : Bool × List CT} {v : Value} {ds : List D}, sh.2.all scalarCT = true → ShRep w F sh v ds → ShRep w' F' sh v ds := fun hc ⟨us, h1, h2⟩ => ⟨us, h1, h2.scalar hc⟩
 have many : ∀ {rs : List (Bool × List CT)} {vs : List Value} {ds : List D}, scalars rs = true → ArgsRep w F rs vs ds → ArgsRep w' F' rs vs ds := by
  intro rs
  induction rs with
  | nil => intro vs ds _ h; cases vs with | nil => exact h | cons => exact h.elim
  | cons r rs ih =>
   intro vs ds hc h
   simp only [scalars, List.all_cons, Bool.and_eq_true] at hc
   cases vs with
   | nil => exact h.elim
   | cons v vs =>
    obtain ⟨d1, d2, e, h1, h2⟩ := h
    exact ⟨d1, d2, e, one hc.1 h1, ih (by simpa [scalars] using hc.2) h2⟩
 match rs, hc, h with
 | [], _, h => exact h
 | [r], hc, h =>
  simp only [scalars, List.all_cons, Bool.and_eq_true] at hc
  exact one hc.1 h
 | r1 :: r2 :: rest, hc, h =>
  obtain ⟨us, e, hr⟩ := h
  exact ⟨us, e, many hc hr⟩
theorem resCells_rel {mk : Nat → X} {all : List D} : ∀ {cts : List CT} {j : Nat} {vs : List Value} {ds : List D}, RepL w gh.F cts vs ds → (∀ i, i < ds.length → (mk (j + i)).d K.Φ K.ρ = ds.getD i default) → relS K.Φ K.ρ w gh (resCells mk j cts) vs
 | [], _, [], [], _, _ => trivial
 | ct :: cts, j, v :: vs, d :: ds, h, hm => by
  refine ⟨?_, resCells_rel (all := all) h.2 fun i hi => ?_⟩
  ·have := hm 0 (by simp)
   simp only [Nat.add_zero, gz0] at this
   show Rep w gh.F ct v ((mk j).d K.Φ K.ρ)
   rw [this]
   exact h.1
  ·have := hm (i + 1) (by simp; omega)
   rw [show j + 1 + i = j + (i + 1) by omega]
   simpa using this
theorem repL_length {F : Nat → Prop} : ∀ {cts : List CT} {vs : List Value} {ds : List D}, RepL w F cts vs ds → ds.length = cts.length ∧ vs.length = cts.length
 | [], [], [], _ => ⟨rfl, rfl⟩
 | _ :: _, _ :: _, _ :: _, h => by have := repL_length h.2; simp [this.1, this.2]
theorem resTup_rel {mk : Nat → X} : ∀ {rs : List (Bool × List CT)} {j : Nat} {vs : List Value} {ds : List D}, ArgsRep w gh.F rs vs ds → (∀ i, i < ds.length → (mk (j + i)).d K.Φ K.ρ = ds.getD i default) → relT K.Φ K.ρ w gh (resTup mk j rs) vs
 | [], _, [], _, _, _ => trivial
 | r :: rs, j, v :: vs, ds, h, hm => by
  obtain ⟨d1, d2, rfl, ⟨us, hus, hrep⟩, h2⟩ := h
  have hl := (repL_length hrep).1
  have h1 := resCells_rel (K := K) (gh := gh) (all := []) (mk := mk) (j := j) hrep fun i hi => by
   have := hm i (by simp; omega)
   rw [this]
   simp only [List.getD]
   rw [List.getElem?_append_left hi]
  refine ⟨?_, resTup_rel h2 fun i hi => ?_⟩
  ·simp only
   split at hus
   ·rename_i hag
    rw [if_pos hag]
    exact ⟨us.toArray, hus, h1⟩
   ·rename_i hag
    rw [if_neg hag]
    subst hus
    exact h1
  ·have := hm (d1.length + i) (by simp; omega)
   rw [← hl, Nat.add_assoc, this]
   simp only [List.getD]
   rw [List.getElem?_append_right (by omega)]
   congr 2
   omega
theorem resSV_rel {mk : Nat → X} {rs : List (Bool × List CT)} {s : SV} (h : resSV mk rs = some s) {v : Value} {ds : List D} (hr : ResRep w gh.F rs v ds) (hm : ∀ i, i < ds.length → (mk i).d K.Φ K.ρ = ds.getD i default) : SV.rel K.Φ K.ρ w gh s v := by
 unfold resSV at h
 unfold ResRep at hr
 split at h
 ·simp only [si0] at h
  subst h
  exact hr
 ·rename_i r
  obtain ⟨us, hus, hrep⟩ := hr
  have h1 := resCells_rel (K := K) (gh := gh) (all := []) (mk := mk) (j := 0) hrep fun i hi => by rw [Nat.zero_add]; exact hm i hi
  have := rel_mkVal h h1
  split at hus
  ·rename_i hag
   rw [hus]
   simpa [hag] using this
  ·rename_i hag
   subst hus
   simpa [hag] using this
 ·simp only [si0] at h
  subst h
  rename_i hne1 hne2
  split at hr
  ·exact absurd rfl hne1
  ·exact absurd rfl (hne2 _)
  ·obtain ⟨us, e, hrr⟩ := hr
   exact ⟨us, e, resTup_rel hrr fun i hi => by rw [Nat.zero_add]; exact hm i hi⟩
end
end Go.RV
namespace Go.RV
open Go.RowKit
section
variable {P : Program} {K : Ctx} {σ : St} {gh : Gh} {a : Act} {w : World} {o : Oper}
theorem RepLO.app {F : Nat → Prop} : ∀ {c1 c2 : List CT} {v1 v2 : List Value} {d1 d2 : List D} {u1 u2 : List Value}, RepLO w F c1 v1 d1 u1 → RepLO w F c2 v2 d2 u2 → RepLO w F (c1 ++ c2) (v1 ++ v2) (d1 ++ d2) (u1 ++ u2)
 | [], _, [], _, [], _, [], _, _, h2 => h2
 | .osl e cts :: cs, _, v :: vs, _, d :: ds, _, u :: us, _, h1, h2 => ⟨h1.1, h1.2.1, RepLO.app h1.2.2 h2⟩
 | .osl e cts :: cs, _, v :: vs, _, d :: ds, _, [], _, h1, h2 => by cases h1.1
 | .int _ :: cs, _, v :: vs, _, d :: ds, _, us, _, h1, h2 => ⟨h1.1, RepLO.app h1.2 h2⟩
 | .bool :: cs, _, v :: vs, _, d :: ds, _, us, _, h1, h2 => ⟨h1.1, RepLO.app h1.2 h2⟩
 | .str :: cs, _, v :: vs, _, d :: ds, _, us, _, h1, h2 => ⟨h1.1, RepLO.app h1.2 h2⟩
 | .sl _ _ :: cs, _, v :: vs, _, d :: ds, _, us, _, h1, h2 => ⟨h1.1, RepLO.app h1.2 h2⟩
 | .pt _ :: cs, _, v :: vs, _, d :: ds, _, us, _, h1, h2 => ⟨h1.1, RepLO.app h1.2 h2⟩
 | .pn _ :: cs, _, v :: vs, _, d :: ds, _, us, _, h1, h2 => ⟨h1.1, RepLO.app h1.2 h2⟩
 | .clo :: cs, _, v :: vs, _, d :: ds, _, us, _, h1, h2 => ⟨h1.1, RepLO.app h1.2 h2⟩
 | .ifc :: cs, _, v :: vs, _, d :: ds, _, us, _, h1, h2 => ⟨h1.1, RepLO.app h1.2 h2⟩
theorem RepLO.len {F : Nat → Prop} : ∀ {cts : List CT} {vs : List Value} {ds : List D} {us : List Value}, RepLO w F cts vs ds us → ds.length = cts.length ∧ vs.length = cts.length ∧ us.length = oN cts
 | [], [], [], [], _ => ⟨rfl, rfl, rfl⟩
 | .osl e cts :: cs, v :: vs, d :: ds, u :: us, h => by have := RepLO.len h.2.2; simp [this.1, this.2.1, this.2.2, oN]
 | .osl e cts :: cs, v :: vs, d :: ds, [], h => by cases h.1
 | .int _ :: cs, v :: vs, d :: ds, us, h => by have := RepLO.len h.2; simp [this.1, this.2.1, this.2.2, oN]
 | .bool :: cs, v :: vs, d :: ds, us, h => by have := RepLO.len h.2; simp [this.1, this.2.1, this.2.2, oN]
 | .str :: cs, v :: vs, d :: ds, us, h => by have := RepLO.len h.2; simp [this.1, this.2.1, this.2.2, oN]
 | .sl _ _ :: cs, v :: vs, d :: ds, us, h => by have := RepLO.len h.2; simp [this.1, this.2.1, this.2.2, oN]
 | .pt _ :: cs, v :: vs, d :: ds, us, h => by have := RepLO.len h.2; simp [this.1, this.2.1, this.2.2, oN]
 | .pn _ :: cs, v :: vs, d :: ds, us, h => by have := RepLO.len h.2; simp [this.1, this.2.1, this.2.2, oN]
 | .clo :: cs, v :: vs, d :: ds, us, h => by have := RepLO.len h.2; simp [this.1, this.2.1, this.2.2, oN]
 | .ifc :: cs, v :: vs, d :: ds, us, h => by have := RepLO.len h.2; simp [this.1, this.2.1, this.2.2, oN]
theorem row_add (h : Inv K σ gh a w) {r : Nat} (hid : σ.res[r]? = some none) {g : X} (hg : (g.d K.Φ K.ρ).bool = true) {e : TypeId} {cts : List CT} {content : X} {v : Value} (hown : OwnD w gh.F e cts v (content.d K.Φ K.ρ))
  (hb : ∀ b, ownB v = some b → ¬ K.Pr b ∧ ¬ gh.F b ∧ b < w.heap.size ∧ ∀ q x, σ.has q x → x.on K → x.k.live gh q ≠ some b) :
  ∃ gh', Inv K ⟨σ.slots, σ.res.set r (some ⟨g, .row e cts content 1 false⟩)⟩ gh' a w ∧ gh.le gh' ∧ gh'.rv r = v ∧ gh'.vr r = 1 ∧ gh'.F = gh.F ∧ gh'.β = gh.β ∧ ∀ q, q ≠ r → gh'.rv q = gh.rv q ∧ gh'.vr q = gh.vr q := by
 have hlt : r < σ.res.length := (List.getElem?_eq_some_iff.1 hid).1
 have hv0 : gh.vr r = 0 := by
  cases hv : gh.vr r with
  | zero => rfl
  | succ n =>
   obtain ⟨x, hx, _⟩ := h.vr0 r (by omega)
   unfold St.has at hx
   rw [hid] at hx
   cases hx
 let gh' : Gh := { gh with rv := fun q => if q = r then v else gh.rv q, vr := fun q => if q = r then 1 else gh.vr q }
 have hle : gh.le gh' := ⟨fun _ _ h => h, fun q => by show gh.vr q ≤ if q = r then 1 else gh.vr q; split <;> (try subst_vars) <;> omega,
  fun q h1 h2 => by
   show (if q = r then v else gh.rv q) = gh.rv q
   by_cases e : q = r
   ·subst e; omega
   ·rw [if_neg e], fun _ h => h⟩
 have hrr : gh'.rv r = v := by simp [gh']
 have hvr : gh'.vr r = 1 := by simp [gh']
 refine ⟨gh', ?_, hle, hrr, hvr, rfl, rfl, fun q hq => ⟨by simp [gh', hq], by simp [gh', hq]⟩⟩
 refine h.step (T := fun q => q = r) ⟨hle, rfl, rfl, rfl, Nat.le_refl _, fun q hq => ⟨by simp [Ne.symm hq], rfl, by simp [gh', hq], by simp [gh', hq]⟩, fun _ _ _ => rfl, fun b hb => h.Flt b hb, fun b hb => .inl hb,
  fun q y hT hy hony => ?_, fun q y b hT hy hony hl => ?_, fun q y q' y' c hT hT' _ _ _ _ _ _ => hT.trans hT'.symm, fun q c hT hb => ?_, fun q hT hr => ?_⟩
 ·subst hT
  rw [getElem?_set_has hlt] at hy
  simp only [si0] at hy
  subst hy
  obtain ⟨xs, vals, hd, ho, hrep⟩ := hown
  refine ⟨hvr, Nat.le_refl _, fun q' n c hq hc0 => ?_, xs, vals, hd, by rw [hrr]; exact ho, hrep⟩
  rw [hrr] at hq
  rcases ho with ⟨_, _, _, h1⟩ | ⟨g', cap, cur, h1, _⟩
  ·rw [h1] at hq
   simp only [Value.slice.injEq] at hq
   omega
  ·rw [h1] at hq
   simp only [Value.slice.injEq, si0] at hq
   exact ⟨g', hq.1.symm⟩
 ·subst hT
  rw [getElem?_set_has hlt] at hy
  simp only [si0] at hy
  subst hy
  simp only [RK.live, hrr] at hl
  obtain ⟨o1, o2, o3, o4⟩ := hb b hl
  exact ⟨o1, o2, o3, fun r2 x2 _ hx2 hon2 => o4 r2 x2 hx2 hon2⟩
 ·subst hT
  exact ⟨_, getElem?_set_has hlt, hg⟩
 ·subst hT
  exact ⟨_, getElem?_set_has hlt, hg⟩
theorem live_other {k : RK} {q : Nat} {gh gh' : Gh} (hβ : gh'.β = gh.β) (hrv : gh'.rv q = gh.rv q) : k.live gh' q = k.live gh q := by
 cases k with
 | box _ _ z => cases z <;> simp [RK.live, hβ]
 | row _ _ _ _ z => cases z <;> simp [RK.live, hrv]
theorem add_rows {mk : Nat → X} {G : X} (hG : (G.d K.Φ K.ρ).bool = true) : ∀ {cts : List CT} {j r : Nat} {vs : List Value} {ds : List D} {us : List Value} {σ : St} {gh : Gh}, Inv K σ gh a w → RepLO w gh.F cts vs ds us →
    (∀ i, i < ds.length → (mk (j + i)).d K.Φ K.ρ = ds.getD i default) → (∀ i, i < us.length → σ.res[r + i]? = some none) →
    (∀ u ∈ us, ∀ b, ownB u = some b → ¬ K.Pr b ∧ ¬ gh.F b ∧ b < w.heap.size ∧ ∀ q x, σ.has q x → x.on K → x.k.live gh q ≠ some b) → us.Pairwise (fun u u' => ∀ b, ownB u = some b → ownB u' ≠ some b) →
    ∃ gh', Inv K ⟨σ.slots, setAll σ.res (ownWr mk G j r cts)⟩ gh' a w ∧ gh.le gh' ∧ gh'.F = gh.F ∧ (∀ i u, us[i]? = some u → gh'.rv (r + i) = u ∧ gh'.vr (r + i) = 1) ∧ ∀ q, q < r → gh'.rv q = gh.rv q ∧ gh'.vr q = gh.vr q
  | [], j, r, vs, ds, us, σ, gh, hI, h, hm, hid, hb, hp => by
    match vs, ds, us, h with
    | [], [], [], _ => exact ⟨gh, hI, Gh.le.refl gh, rfl, by simp, fun _ _ => ⟨rfl, rfl⟩⟩
  | .osl e cts :: cs, j, r, vs, ds, us, σ, gh, hI, h, hm, hid, hb, hp => by
    match vs, ds, us, h with
    | v :: vs, d :: ds, u :: us, h9 =>
      obtain ⟨hvu, ho, h3⟩ := h9
      subst hvu
      have hm0 := hm 0 (by simp)
      simp only [Nat.add_zero, gz0] at hm0
      obtain ⟨gh1, hI1, hle1, hrv1, hvr1, hF1, hβ1, hot1⟩ := row_add hI (r := r) (by simpa using hid 0 (by simp)) hG (e := e) (cts := cts) (content := mk j) (v := v) (by rw [hm0]; exact ho) (hb v (by simp))
      have hp' := List.pairwise_cons.1 hp
      obtain ⟨gh', hI', hle', hF', hus, hlow⟩ := add_rows hG (j := j + 1) (r := r + 1) (us := us) (σ := ⟨σ.slots, σ.res.set r (some ⟨G, .row e cts (mk j) 1 false⟩)⟩) hI1 (by rw [hF1]; exact h3)
        (fun i hi => by have := hm (i + 1) (by simp; omega); rw [show j + 1 + i = j + (i + 1) by omega]; simpa using this)
        (fun i hi => by
          have := hid (i + 1) (by simp; omega)
          show (σ.res.set r _)[r + 1 + i]? = some none
          rw [List.getElem?_set, if_neg (by omega), show r + 1 + i = r + (i + 1) by omega]; exact this)
        (fun u' hu' b hbu => by
          obtain ⟨o1, o2, o3, o4⟩ := hb u' (by simp [hu']) b hbu
          refine ⟨o1, by rw [hF1]; exact o2, o3, fun q x hx hon hl => ?_⟩
          by_cases hq : q = r
          · subst hq
            have hlt : q < σ.res.length := (List.getElem?_eq_some_iff.1 (by simpa using hid 0 (by simp))).1
            unfold St.has at hx
            rw [getElem?_set_has hlt] at hx
            simp only [si0] at hx
            subst hx
            simp only [RK.live, hrv1] at hl
            exact hp'.1 u' hu' b hl hbu
          · have hx' : σ.has q x := by
              unfold St.has at hx ⊢
              rw [List.getElem?_set, if_neg (Ne.symm hq)] at hx
              exact hx
            rw [live_other hβ1 (hot1 q hq).1] at hl
            exact o4 q x hx' hon hl) hp'.2
      refine ⟨gh', hI', hle1.trans hle', hF'.trans hF1, fun i u' hi => ?_, fun q hq => ?_⟩
      · cases i with
        | zero =>
          simp only [List.getElem?_cons_zero, si0] at hi
          subst hi
          obtain ⟨k1, k2⟩ := hlow r (by omega)
          exact ⟨k1.trans hrv1, k2.trans hvr1⟩
        | succ i =>
          have := hus i u' (by simpa using hi)
          rw [show r + (i + 1) = r + 1 + i by omega]; exact this
      · obtain ⟨k1, k2⟩ := hlow q (by omega)
        obtain ⟨k3, k4⟩ := hot1 q (by omega)
        exact ⟨k1.trans k3, k2.trans k4⟩
    | v :: vs, d :: ds, [], h9 => cases h9.1
  | .int _ :: cs, j, r, vs, ds, us, σ, gh, hI, h, hm, hid, hb, hp => by
    match vs, ds, h with
    | v :: vs, d :: ds, h => exact add_rows hG (j := j + 1) hI h.2 (fun i hi => by have := hm (i + 1) (by simp; omega); rw [show j + 1 + i = j + (i + 1) by omega]; simpa using this) hid hb hp
  | .bool :: cs, j, r, vs, ds, us, σ, gh, hI, h, hm, hid, hb, hp => by
    match vs, ds, h with
    | v :: vs, d :: ds, h => exact add_rows hG (j := j + 1) hI h.2 (fun i hi => by have := hm (i + 1) (by simp; omega); rw [show j + 1 + i = j + (i + 1) by omega]; simpa using this) hid hb hp
  | .str :: cs, j, r, vs, ds, us, σ, gh, hI, h, hm, hid, hb, hp => by
    match vs, ds, h with
    | v :: vs, d :: ds, h => exact add_rows hG (j := j + 1) hI h.2 (fun i hi => by have := hm (i + 1) (by simp; omega); rw [show j + 1 + i = j + (i + 1) by omega]; simpa using this) hid hb hp
  | .sl _ _ :: cs, j, r, vs, ds, us, σ, gh, hI, h, hm, hid, hb, hp => by
    match vs, ds, h with
    | v :: vs, d :: ds, h => exact add_rows hG (j := j + 1) hI h.2 (fun i hi => by have := hm (i + 1) (by simp; omega); rw [show j + 1 + i = j + (i + 1) by omega]; simpa using this) hid hb hp
  | .pt _ :: cs, j, r, vs, ds, us, σ, gh, hI, h, hm, hid, hb, hp => by
    match vs, ds, h with
    | v :: vs, d :: ds, h => exact add_rows hG (j := j + 1) hI h.2 (fun i hi => by have := hm (i + 1) (by simp; omega); rw [show j + 1 + i = j + (i + 1) by omega]; simpa using this) hid hb hp
  | .pn _ :: cs, j, r, vs, ds, us, σ, gh, hI, h, hm, hid, hb, hp => by
    match vs, ds, h with
    | v :: vs, d :: ds, h => exact add_rows hG (j := j + 1) hI h.2 (fun i hi => by have := hm (i + 1) (by simp; omega); rw [show j + 1 + i = j + (i + 1) by omega]; simpa using this) hid hb hp
  | .clo :: cs, j, r, vs, ds, us, σ, gh, hI, h, hm, hid, hb, hp => by
    match vs, ds, h with
    | v :: vs, d :: ds, h => exact add_rows hG (j := j + 1) hI h.2 (fun i hi => by have := hm (i + 1) (by simp; omega); rw [show j + 1 + i = j + (i + 1) by omega]; simpa using this) hid hb hp
  | .ifc :: cs, j, r, vs, ds, us, σ, gh, hI, h, hm, hid, hb, hp => by
    match vs, ds, h with
    | v :: vs, d :: ds, h => exact add_rows hG (j := j + 1) hI h.2 (fun i hi => by have := hm (i + 1) (by simp; omega); rw [show j + 1 + i = j + (i + 1) by omega]; simpa using this) hid hb hp
theorem resCellsO_rel {mk : Nat → X} : ∀ {cts : List CT} {j r : Nat} {vs : List Value} {ds : List D} {us : List Value}, RepLO w gh.F cts vs ds us → (∀ i, i < ds.length → (mk (j + i)).d K.Φ K.ρ = ds.getD i default) →
  (∀ i u, us[i]? = some u → gh.rv (r + i) = u ∧ gh.vr (r + i) = 1) → relS K.Φ K.ρ w gh (resCellsO mk j r cts) vs
 | [], j, r, vs, ds, us, h, hm, hu => by
  match vs, ds, us, h with
  | [], [], [], _ => trivial
 | .osl e cts :: cs, j, r, vs, ds, us, h, hm, hu => by
  match vs, ds, us, h with
  | v :: vs, d :: ds, u :: us, h9 =>
   obtain ⟨hvu, ⟨xs, vals, _, ho, _⟩, h3⟩ := h9
   subst hvu
   obtain ⟨k1, k2⟩ := hu 0 v rfl
   rw [Nat.add_zero] at k1 k2
   refine ⟨⟨ho.slice, Nat.le_refl _, by rw [k2]; exact Nat.le_refl _, fun _ => k1.symm⟩, resCellsO_rel h3 (fun i hi => ?_) fun i u hi => ?_⟩
   ·have := hm (i + 1) (by simp; omega)
    rw [show j + 1 + i = j + (i + 1) by omega]; simpa using this
   ·have := hu (i + 1) u (by simpa using hi)
    rw [show r + 1 + i = r + (i + 1) by omega]; exact this
  | v :: vs, d :: ds, [], h9 => cases h9.1
 | .int _ :: cs, j, r, vs, ds, us, h, hm, hu => by
  match vs, ds, h with
  | v :: vs, d :: ds, h =>
   have hm0 := hm 0 (by simp)
   simp only [Nat.add_zero, gz0] at hm0
   refine ⟨?_, resCellsO_rel h.2 (fun i hi => by have := hm (i + 1) (by simp; omega); rw [show j + 1 + i = j + (i + 1) by omega]; simpa using this) hu⟩
   show Rep w gh.F _ v ((mk j).d K.Φ K.ρ)
   rw [hm0]; exact h.1
 | .bool :: cs, j, r, vs, ds, us, h, hm, hu => by
  match vs, ds, h with
  | v :: vs, d :: ds, h =>
   have hm0 := hm 0 (by simp)
   simp only [Nat.add_zero, gz0] at hm0
   refine ⟨?_, resCellsO_rel h.2 (fun i hi => by have := hm (i + 1) (by simp; omega); rw [show j + 1 + i = j + (i + 1) by omega]; simpa using this) hu⟩
   show Rep w gh.F _ v ((mk j).d K.Φ K.ρ)
   rw [hm0]; exact h.1
 | .str :: cs, j, r, vs, ds, us, h, hm, hu => by
  match vs, ds, h with
  | v :: vs, d :: ds, h =>
   have hm0 := hm 0 (by simp)
   simp only [Nat.add_zero, gz0] at hm0
   refine ⟨?_, resCellsO_rel h.2 (fun i hi => by have := hm (i + 1) (by simp; omega); rw [show j + 1 + i = j + (i + 1) by omega]; simpa using this) hu⟩
   show Rep w gh.F _ v ((mk j).d K.Φ K.ρ)
   rw [hm0]; exact h.1
 | .sl _ _ :: cs, j, r, vs, ds, us, h, hm, hu => by
  match vs, ds, h with
  | v :: vs, d :: ds, h =>
   have hm0 := hm 0 (by simp)
   simp only [Nat.add_zero, gz0] at hm0
   refine ⟨?_, resCellsO_rel h.2 (fun i hi => by have := hm (i + 1) (by simp; omega); rw [show j + 1 + i = j + (i + 1) by omega]; simpa using this) hu⟩
   show Rep w gh.F _ v ((mk j).d K.Φ K.ρ)
   rw [hm0]; exact h.1
 | .pt _ :: cs, j, r, vs, ds, us, h, hm, hu => by
  match vs, ds, h with
  | v :: vs, d :: ds, h =>
   have hm0 := hm 0 (by simp)
   simp only [Nat.add_zero, gz0] at hm0
   refine ⟨?_, resCellsO_rel h.2 (fun i hi => by have := hm (i + 1) (by simp; omega); rw [show j + 1 + i = j + (i + 1) by omega]; simpa using this) hu⟩
   show Rep w gh.F _ v ((mk j).d K.Φ K.ρ)
   rw [hm0]; exact h.1
 | .pn _ :: cs, j, r, vs, ds, us, h, hm, hu => by
  match vs, ds, h with
  | v :: vs, d :: ds, h =>
   have hm0 := hm 0 (by simp)
   simp only [Nat.add_zero, gz0] at hm0
   refine ⟨?_, resCellsO_rel h.2 (fun i hi => by have := hm (i + 1) (by simp; omega); rw [show j + 1 + i = j + (i + 1) by omega]; simpa using this) hu⟩
   show Rep w gh.F _ v ((mk j).d K.Φ K.ρ)
   rw [hm0]; exact h.1
 | .clo :: cs, j, r, vs, ds, us, h, hm, hu => by
  match vs, ds, h with
  | v :: vs, d :: ds, h =>
   have hm0 := hm 0 (by simp)
   simp only [Nat.add_zero, gz0] at hm0
   refine ⟨?_, resCellsO_rel h.2 (fun i hi => by have := hm (i + 1) (by simp; omega); rw [show j + 1 + i = j + (i + 1) by omega]; simpa using this) hu⟩
   show Rep w gh.F _ v ((mk j).d K.Φ K.ρ)
   rw [hm0]; exact h.1
 | .ifc :: cs, j, r, vs, ds, us, h, hm, hu => by
  match vs, ds, h with
  | v :: vs, d :: ds, h =>
   have hm0 := hm 0 (by simp)
   simp only [Nat.add_zero, gz0] at hm0
   refine ⟨?_, resCellsO_rel h.2 (fun i hi => by have := hm (i + 1) (by simp; omega); rw [show j + 1 + i = j + (i + 1) by omega]; simpa using this) hu⟩
   show Rep w gh.F _ v ((mk j).d K.Φ K.ρ)
   rw [hm0]; exact h.1
theorem resTupO_rel {mk : Nat → X} : ∀ {rs : List (Bool × List CT)} {j r : Nat} {vs : List Value} {ds : List D} {us : List Value}, ArgsRepO w gh.F rs vs ds us → (∀ i, i < ds.length → (mk (j + i)).d K.Φ K.ρ = ds.getD i default) →
  (∀ i u, us[i]? = some u → gh.rv (r + i) = u ∧ gh.vr (r + i) = 1) → relT K.Φ K.ρ w gh (resTupO mk j r rs) vs
 | [], j, r, vs, ds, us, h, hm, hu => by
  match vs, h with
  | [], _ => trivial
 | p :: rs, j, r, vs, ds, us, h, hm, hu => by
  match vs, h with
  | v :: vs, h =>
   obtain ⟨d1, d2, u1, u2, rfl, rfl, ⟨cs, hcs, hrep⟩, h2⟩ := h
   have hl := hrep.len
   have h1 := resCellsO_rel (K := K) (gh := gh) (mk := mk) (j := j) (r := r) hrep (fun i hi => by
    have := hm i (by simp; omega)
    rw [this]
    simp only [List.getD]
    rw [List.getElem?_append_left hi]) (fun i u hi => hu i u (by rw [List.getElem?_append_left (List.getElem?_eq_some_iff.1 hi).1]; exact hi))
   refine ⟨?_, resTupO_rel h2 (fun i hi => ?_) fun i u hi => ?_⟩
   ·simp only
    split at hcs
    ·rename_i hag
     rw [if_pos hag]
     exact ⟨cs.toArray, hcs, h1⟩
    ·rename_i hag
     rw [if_neg hag]
     subst hcs
     exact h1
   ·have := hm (d1.length + i) (by simp; omega)
    rw [← hl.1, Nat.add_assoc, this]
    simp only [List.getD]
    rw [List.getElem?_append_right (by omega)]
    congr 2
    omega
   ·have := hu (u1.length + i) u (by rw [List.getElem?_append_right (by omega)]; simpa using hi)
    rw [hl.2.2] at this
    rw [Nat.add_assoc]; exact this
theorem resSVO_rel {mk : Nat → X} {r : Nat} {rs : List (Bool × List CT)} {s : SV} (h : resSVO mk r rs = some s) {v : Value} {ds : List D} {us : List Value} (hr : ResRepO w gh.F rs v ds us) (hm : ∀ i, i < ds.length → (mk i).d K.Φ K.ρ = ds.getD i default)
  (hu : ∀ i u, us[i]? = some u → gh.rv (r + i) = u ∧ gh.vr (r + i) = 1) : SV.rel K.Φ K.ρ w gh s v := by
 unfold resSVO at h
 unfold ResRepO at hr
 split at h
 ·simp only [si0] at h
  subst h
  exact hr.1
 ·rename_i p
  obtain ⟨cs, hcs, hrep⟩ := hr
  have h1 := resCellsO_rel (K := K) (gh := gh) (mk := mk) (j := 0) (r := r) hrep (fun i hi => by rw [Nat.zero_add]; exact hm i hi) hu
  have := rel_mkVal h h1
  split at hcs
  ·rename_i hag
   rw [hcs]
   simpa [hag] using this
  ·rename_i hag
   subst hcs
   simpa [hag] using this
 ·simp only [si0] at h
  subst h
  rename_i hne1 hne2
  split at hr
  ·exact absurd rfl hne1
  ·exact absurd rfl (hne2 _)
  ·obtain ⟨cs, e, hrr⟩ := hr
   exact ⟨cs, e, resTupO_rel hrr (fun i hi => by rw [Nat.zero_add]; exact hm i hi) hu⟩
theorem argsO_flat {F : Nat → Prop} : ∀ {rs : List (Bool × List CT)} {vs : List Value} {ds : List D} {us : List Value}, ArgsRepO w F rs vs ds us → ∃ cs, RepLO w F (rs.map (·.2)).flatten cs ds us
 | [], vs, ds, us, h => by
  match vs, h with
  | [], h => obtain ⟨rfl, rfl⟩ := h; exact ⟨[], trivial⟩
 | p :: rs, vs, ds, us, h => by
  match vs, h with
  | v :: vs, h =>
   obtain ⟨d1, d2, u1, u2, rfl, rfl, ⟨cs, _, hrep⟩, h2⟩ := h
   obtain ⟨cs', h3⟩ := argsO_flat h2
   exact ⟨cs ++ cs', by simpa using hrep.app h3⟩
theorem resO_flat {F : Nat → Prop} {rs : List (Bool × List CT)} {v : Value} {ds : List D} {us : List Value} (h : ResRepO w F rs v ds us) (hne : rs ≠ []) : ∃ cs, RepLO w F (rs.map (·.2)).flatten cs ds us := by
 match rs, h, hne with
 | [p], h, _ =>
  obtain ⟨cs, _, hrep⟩ := h
  exact ⟨cs, by simpa using hrep⟩
 | p1 :: p2 :: rest, h, _ =>
  obtain ⟨cs, _, hr⟩ := h
  exact argsO_flat hr
theorem flat_rep {F F' : Nat → Prop} {w' : World} {ct : CT} (hc : flatCT ct = true) {v : Value} {d : D} (h : Rep w F ct v d) : Rep w' F' ct v d := by
 cases h with
 | int h => exact .int h
 | bool => exact .bool
 | str h => exact .str h
 | nil => cases hc
 | sl => cases hc
 | pt => cases hc
 | pnz => cases hc
 | pns => cases hc
 | clo => cases hc
 | ifc => cases hc
theorem OwnD.flat {F F' : Nat → Prop} {e : TypeId} {cts : List CT} {v : Value} {d : D} (hc : cts.all flatCT = true) (h : OwnD w F e cts v d) : OwnD w F' e cts v d := by
 obtain ⟨xs, vals, h1, h2, h3⟩ := h
 refine ⟨xs, vals, h1, h2, fun i hi => ⟨(h3 i hi).1, fun j ct hj => ?_⟩⟩
 exact flat_rep (List.all_eq_true.1 hc ct (List.mem_of_getElem? hj)) ((h3 i hi).2 j ct hj)
theorem RepLO.scalar {F F' : Nat → Prop} : ∀ {cts : List CT} (_ : cts.all scalarCT = true) {vs : List Value} {ds : List D} {us : List Value}, RepLO w F cts vs ds us → RepLO w F' cts vs ds us
 | [], _, [], [], [], _ => trivial
 | .osl e cts :: cs, hc, v :: vs, d :: ds, u :: us, h => by
  simp only [List.all_cons, Bool.and_eq_true] at hc
  exact ⟨h.1, h.2.1.flat hc.1, RepLO.scalar hc.2 h.2.2⟩
 | .osl e cts :: cs, _, v :: vs, d :: ds, [], h => by cases h.1
 | .int _ :: cs, hc, v :: vs, d :: ds, us, h => by
  simp only [List.all_cons, Bool.and_eq_true] at hc
  exact ⟨flat_rep (show flatCT (.int _) = true from hc.1) h.1, RepLO.scalar hc.2 h.2⟩
 | .bool :: cs, hc, v :: vs, d :: ds, us, h => by
  simp only [List.all_cons, Bool.and_eq_true] at hc
  exact ⟨flat_rep (show flatCT (.bool) = true from hc.1) h.1, RepLO.scalar hc.2 h.2⟩
 | .str :: cs, hc, v :: vs, d :: ds, us, h => by
  simp only [List.all_cons, Bool.and_eq_true] at hc
  exact ⟨flat_rep (show flatCT (.str) = true from hc.1) h.1, RepLO.scalar hc.2 h.2⟩
 | .sl _ _ :: cs, hc, v :: vs, d :: ds, us, h => by
  simp only [List.all_cons, Bool.and_eq_true] at hc
  exact ⟨flat_rep (show flatCT (.sl _ _) = true from hc.1) h.1, RepLO.scalar hc.2 h.2⟩
 | .pt _ :: cs, hc, v :: vs, d :: ds, us, h => by
  simp only [List.all_cons, Bool.and_eq_true] at hc
  exact ⟨flat_rep (show flatCT (.pt _) = true from hc.1) h.1, RepLO.scalar hc.2 h.2⟩
 | .pn _ :: cs, hc, v :: vs, d :: ds, us, h => by
  simp only [List.all_cons, Bool.and_eq_true] at hc
  exact ⟨flat_rep (show flatCT (.pn _) = true from hc.1) h.1, RepLO.scalar hc.2 h.2⟩
 | .clo :: cs, hc, v :: vs, d :: ds, us, h => by
  simp only [List.all_cons, Bool.and_eq_true] at hc
  exact ⟨flat_rep (show flatCT (.clo) = true from hc.1) h.1, RepLO.scalar hc.2 h.2⟩
 | .ifc :: cs, hc, v :: vs, d :: ds, us, h => by
  simp only [List.all_cons, Bool.and_eq_true] at hc
  exact ⟨flat_rep (show flatCT (.ifc) = true from hc.1) h.1, RepLO.scalar hc.2 h.2⟩
theorem ArgsRepO.scalar {F F' : Nat → Prop} : ∀ {rs : List (Bool × List CT)} (_ : scalars rs = true) {vs : List Value} {ds : List D} {us : List Value}, ArgsRepO w F rs vs ds us → ArgsRepO w F' rs vs ds us
 | [], _, vs, ds, us, h => by
  match vs, h with
  | [], h => exact h
 | p :: rs, hc, vs, ds, us, h => by
  simp only [scalars, List.all_cons, Bool.and_eq_true] at hc
  match vs, h with
  | v :: vs, h =>
   obtain ⟨d1, d2, u1, u2, e1, e2, ⟨cs, k1, k2⟩, h2⟩ := h
   exact ⟨d1, d2, u1, u2, e1, e2, ⟨cs, k1, k2.scalar hc.1⟩, ArgsRepO.scalar (by simpa [scalars] using hc.2) h2⟩
theorem ResRepO.scalar {F F' : Nat → Prop} {rs : List (Bool × List CT)} (hc : scalars rs = true) {v : Value} {ds : List D} {us : List Value} (h : ResRepO w F rs v ds us) : ResRepO w F' rs v ds us := by
 match rs, hc, h with
 | [], _, h => exact h
 | [p], hc, h =>
  simp only [scalars, List.all_cons, Bool.and_eq_true] at hc
  obtain ⟨cs, k1, k2⟩ := h
  exact ⟨cs, k1, k2.scalar hc.1⟩
 | p1 :: p2 :: rest, hc, h =>
  obtain ⟨cs, e, hr⟩ := h
  exact ⟨cs, e, hr.scalar hc⟩
theorem ownWr_nil {mk : Nat → X} {G : X} : ∀ {cts : List CT} {j r : Nat}, oN cts = 0 → ownWr mk G j r cts = []
 | [], _, _, _ => rfl
 | .osl _ _ :: cs, _, _, h => by simp [oN] at h
 | .int _ :: cs, _, _, h => ownWr_nil (cts := cs) h
 | .bool :: cs, _, _, h => ownWr_nil (cts := cs) h
 | .str :: cs, _, _, h => ownWr_nil (cts := cs) h
 | .sl _ _ :: cs, _, _, h => ownWr_nil (cts := cs) h
 | .pt _ :: cs, _, _, h => ownWr_nil (cts := cs) h
 | .pn _ :: cs, _, _, h => ownWr_nil (cts := cs) h
 | .clo :: cs, _, _, h => ownWr_nil (cts := cs) h
 | .ifc :: cs, _, _, h => ownWr_nil (cts := cs) h
theorem ownWr_mem {mk : Nat → X} {G : X} : ∀ {cts : List CT} {j r : Nat} {p : Nat × Res}, p ∈ ownWr mk G j r cts → ∃ i, i < oN cts ∧ p.1 = r + i ∧ p.2.g = G
 | [], _, _, _, h => by cases h
 | .osl _ _ :: cs, j, r, p, h => by
  cases h with
  | head => exact ⟨0, by simp [oN], rfl, rfl⟩
  | tail _ h =>
   obtain ⟨i, h1, h2, h3⟩ := ownWr_mem h
   exact ⟨i + 1, by simp [oN]; omega, by omega, h3⟩
 | .int _ :: cs, _, _, _, h => ownWr_mem (cts := cs) h
 | .bool :: cs, _, _, _, h => ownWr_mem (cts := cs) h
 | .str :: cs, _, _, _, h => ownWr_mem (cts := cs) h
 | .sl _ _ :: cs, _, _, _, h => ownWr_mem (cts := cs) h
 | .pt _ :: cs, _, _, _, h => ownWr_mem (cts := cs) h
 | .pn _ :: cs, _, _, _, h => ownWr_mem (cts := cs) h
 | .clo :: cs, _, _, _, h => ownWr_mem (cts := cs) h
 | .ifc :: cs, _, _, _, h => ownWr_mem (cts := cs) h
theorem setAll_off {r : Nat} : ∀ {wr : List (Nat × Res)} {rs : List (Option Res)}, (∀ p ∈ wr, p.1 ≠ r) → (setAll rs wr)[r]? = rs[r]?
 | [], rs, _ => rfl
 | p :: wr, rs, h => by
  show (setAll (rs.set p.1 (some p.2)) wr)[r]? = _
  rw [setAll_off fun q hq => h q (by simp [hq]), List.getElem?_set, if_neg (h p (by simp))]
theorem setAll_app (l : List (Option Res)) : ∀ (wr wr' : List (Nat × Res)), setAll l (wr ++ wr') = setAll (setAll l wr) wr' := by
 intro wr
 induction wr generalizing l with
 | nil => intro wr'; rfl
 | cons p wr ih => intro wr'; exact ih _ wr'
theorem RepL.toO {F : Nat → Prop} : ∀ {cts : List CT} {vs : List Value} {ds : List D}, RepL w F cts vs ds → RepLO w F cts vs ds []
 | [], [], [], _ => trivial
 | .osl _ _ :: _, _ :: _, _ :: _, h => by cases h.1
 | .int _ :: _, _ :: _, _ :: _, h => ⟨h.1, h.2.toO⟩
 | .bool :: _, _ :: _, _ :: _, h => ⟨h.1, h.2.toO⟩
 | .str :: _, _ :: _, _ :: _, h => ⟨h.1, h.2.toO⟩
 | .sl _ _ :: _, _ :: _, _ :: _, h => ⟨h.1, h.2.toO⟩
 | .pt _ :: _, _ :: _, _ :: _, h => ⟨h.1, h.2.toO⟩
 | .pn _ :: _, _ :: _, _ :: _, h => ⟨h.1, h.2.toO⟩
 | .clo :: _, _ :: _, _ :: _, h => ⟨h.1, h.2.toO⟩
 | .ifc :: _, _ :: _, _ :: _, h => ⟨h.1, h.2.toO⟩
theorem ArgsRep.toO {F : Nat → Prop} : ∀ {rs : List (Bool × List CT)} {vs : List Value} {ds : List D}, ArgsRep w F rs vs ds → ArgsRepO w F rs vs ds []
 | [], [], _, h => ⟨h, rfl⟩
 | _ :: _, _ :: _, _, ⟨d1, d2, e, ⟨cs, h1, h2⟩, h3⟩ => ⟨d1, d2, [], [], e, rfl, ⟨cs, h1, h2.toO⟩, h3.toO⟩
theorem ResRep.toO {F : Nat → Prop} {rs : List (Bool × List CT)} {v : Value} {ds : List D} (h : ResRep w F rs v ds) : ResRepO w F rs v ds [] := by
 match rs, h with
 | [], h => exact ⟨h, rfl⟩
 | [_], ⟨cs, h1, h2⟩ => exact ⟨cs, h1, h2.toO⟩
 | _ :: _ :: _, ⟨cs, e, h⟩ => exact ⟨cs, e, h.toO⟩
theorem ownNew_nil {w' : World} {F : Nat → Prop} : OwnNew w w' F [] := ⟨by simp, List.Pairwise.nil⟩
end
end Go.RV
