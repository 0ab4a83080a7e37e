/-
  RV, part 8: building values, new variables, stores.
-/
import Derived.Test.YthnilbkkihmpoaaRvUpd
import Derived.Great.FillDense
namespace Go.RV
open Go.RowKit

section
variable {P : Program} {K : Ctx} {σ : St} {gh : Gh} {a : Act} {w : World} {o : Oper}

theorem zero_rel {t : TypeId} {cs : List SC} (h : zeroCells P t = some cs) (w : World) (gh : Gh) : ∃ z, (zeroValue t).run P w = .ok z w ∧ (∃ i, P.info? t = some i ∧ i.zero = some z) ∧ relS K.Φ K.ρ w gh cs z.cells.toList := by
  unfold zeroCells at h
  split at h
  · rename_i v hv
    cases hi : P.info? t with
    | none => simp [hi] at hv
    | some i =>
      simp [hi] at hv
      refine ⟨v, by simp [zeroValue, typeInfo, hi, hv], ⟨i, rfl, hv⟩, ?_⟩
      unfold constSV at h
      split at h
      · rename_i us
        simp only [cellsOf, Option.some.injEq] at h
        subst h
        exact relS_const us.toList
      · simp [cellsOf] at h
      · rename_i h1 h2
        simp only [cellsOf, Option.some.injEq] at h
        subst h
        have : v.cells = #[v] := by cases v <;> first | rfl | exact absurd rfl (h1 _)
        rw [this]
        exact ⟨constSC_rel v, trivial⟩
  · cases h

theorem cells_rel {s : SV} {v : Value} {cs : List SC} (h : cellsOf s = some cs) (hs : SV.rel K.Φ K.ρ w gh s v) (hn : noAny cs = true) : relS K.Φ K.ρ w gh cs v.cells.toList := by
  unfold cellsOf at h
  split at h <;> simp only [Option.some.injEq, reduceCtorEq] at h <;> subst h
  · rename_i c
    have hc : c ≠ .any := by rintro rfl; simp [noAny] at hn
    have h1 : v.oneCell' = true := SC.rel_oneCell (show SC.rel K.Φ K.ρ w gh c v from hs) hc
    have : v.cells = #[v] := by cases v <;> first | rfl | cases h1
    rw [this]
    exact ⟨hs, trivial⟩
  · obtain ⟨vs, rfl, hr⟩ := hs
    exact hr

theorem fill_step (us : Array Value) (off : Nat) (cells : Array Value) (h : off + us.size ≤ cells.size) :
    (us.zipIdx.foldl (fun cs (x : Value × Nat) => cs.setIfInBounds (off + x.2) x.1) cells).toList = cells.toList.take off ++ us.toList ++ cells.toList.drop (off + us.toList.length) := by
  obtain ⟨h1, h2⟩ := Great.foldl_set off us.toList 0 cells
  rw [← Array.foldl_toList, Array.toList_zipIdx]
  apply List.ext_getElem?
  intro k
  rw [Array.getElem?_toList, h2 k]
  simp only [Nat.add_zero, Array.length_toList]
  by_cases hk : off ≤ k ∧ k < off + us.size ∧ k < cells.size
  · rw [if_pos hk, List.getElem?_append_left (by simp; omega), List.getElem?_append_right (by simp; omega)]
    congr 1
    simp; omega
  · rw [if_neg hk]
    by_cases hk2 : k < off
    · rw [List.append_assoc, List.getElem?_append_left (by simp; omega), List.getElem?_take, if_pos hk2]
      simp
    · rw [List.getElem?_append_right (by simp; omega), List.getElem?_drop]
      simp only [List.length_append, List.length_take, Array.length_toList]
      rw [Array.getElem?_toList]
      congr 1
      omega

theorem fill_ok {place : Nat → Option (Nat × Nat)} : ∀ {parts : List (Nat × SV)} {vals : List (Nat × Value)} {z cs : List SC} {cells : Array Value}, setParts place z parts = some cs →
    relS K.Φ K.ρ w gh z cells.toList → parts.length = vals.length → (∀ (j : Nat) p u, parts[j]? = some p → vals[j]? = some u → p.1 = u.1 ∧ SV.rel K.Φ K.ρ w gh p.2 u.2) →
    ∃ r, Instr.fill place cells vals = some r ∧ relS K.Φ K.ρ w gh cs r.toList
  | [], [], z, cs, cells, h, hz, _, _ => by
    simp only [setParts, Option.some.injEq] at h
    subst h
    exact ⟨cells, rfl, hz⟩
  | p :: parts, u :: vals, z, cs, cells, h, hz, hl, hr => by
    obtain ⟨i, s⟩ := p
    obtain ⟨i', v⟩ := u
    obtain ⟨e, hs⟩ := hr 0 (i, s) (i', v) rfl rfl
    simp only at e hs
    subst e
    simp only [setParts] at h
    split at h
    · rename_i off size cs1 hp hc
      split at h
      · rename_i hcond
        simp only [Bool.and_eq_true, beq_iff_eq] at hcond
        obtain ⟨⟨h1, h2⟩, h3⟩ := hcond
        have h3 := Nat.le_of_ble_eq_true h3
        have hcr := cells_rel hc hs h2
        have hlen := relS_length hcr
        have hzl := relS_length hz
        simp only [Array.length_toList] at hlen hzl
        have hle : off + v.cells.size ≤ cells.size := by omega
        have hz' : relS K.Φ K.ρ w gh (setRange z off cs1) (v.cells.zipIdx.foldl (fun cs (x : Value × Nat) => cs.setIfInBounds (off + x.2) x.1) cells).toList := by
          rw [fill_step v.cells off cells hle]
          exact relS_setRange off hz hcr
        obtain ⟨r, hf, hrr⟩ := fill_ok h hz' (by simpa using hl) (fun j p u hp hu => hr (j + 1) p u (by simpa using hp) (by simpa using hu))
        refine ⟨r, ?_, hrr⟩
        unfold Instr.fill
        simp only [hp]
        rw [if_neg (by simp; omega)]
        exact hf
      · cases h
    · cases h
  | [], _ :: _, _, _, _, _, _, hl, _ => by simp at hl
  | _ :: _, [], _, _, _, _, _, hl, _ => by simp at hl

theorem run_places {w : World} : ∀ {fs : List Field} {l : List (Nat × Nat)}, placesOf P fs = some l → (fs.mapM (fun f => do pure (f.offset, ← sizeOf f.type)) : Sem (List (Nat × Nat))).run P w = .ok l w
  | [], l, h => by
    simp only [placesOf, Option.some.injEq] at h
    subst h
    simp
  | f :: fs, l, h => by
    simp only [placesOf] at h
    split at h
    · rename_i n l' h1 h2
      simp only [Option.some.injEq] at h
      subst h
      have ih := run_places (w := w) h2
      simp only [List.mapM_cons, Sem.run_bind, run_sizeT h1, Result.andThen_ok, Sem.run_pure, ih]
    · cases h

theorem eff_build (h : Inv K σ gh a w) {t : TypeId} {ps : Array (Nat × Operand)} (ho : o.op = .build t ps) {G : X} (hG : (G.d K.Φ K.ρ).bool = true) {eo : EO}
    (he : (effBuild P t (ps.toList.map fun p => (p.1, strip G (σ.opd p.2)))).run σ.res = some eo) : EffOk K σ P o a w eo := by
  have hparts : ∀ (j : Nat) p u, (ps.toList.map fun p => (p.1, strip G (σ.opd p.2)))[j]? = some p → (ps.toList.map fun p => (p.1, a.eval p.2))[j]? = some u → p.1 = u.1 ∧ SV.rel K.Φ K.ρ w gh p.2 u.2 := by
    intro j p u hp hu
    simp only [List.getElem?_map, Option.map_eq_some_iff] at hp hu
    obtain ⟨q, hq, rfl⟩ := hp
    obtain ⟨q', hq', rfl⟩ := hu
    obtain rfl := Option.some.inj (hq.symm.trans hq')
    exact ⟨rfl, strip_rel hG (h.opd q.2)⟩
  have hmap : (ps.map fun (x : Nat × Operand) => (x.1, a.eval x.2)).toList = ps.toList.map fun p => (p.1, a.eval p.2) := by simp
  unfold effBuild at he
  split at he
  · rename_i z fs hz hu
    split at he
    · rename_i places hp
      split at he
      · rename_i cs hs
        have he := RM.run_done he
        subst he
        obtain ⟨v, hrun, _, hrel⟩ := zero_rel (K := K) (gh := gh) hz w
        obtain ⟨r, hf, hrr⟩ := fill_ok hs hrel (by simp) hparts
        have hpl := run_places (P := P) (w := w) hp
        refine EffOk.pure h (v := .agg r) ?_ ⟨r, rfl, hrr⟩
        simp only [execOp, ho, Instr.build, Sem.run_bind, hrun, Result.andThen_ok, run_underlying hu, Array.mapM_eq_mapM_toList, Sem.run_map, hpl, hmap]
        have : (fun (x : Nat) => (List.toArray places)[x]?) = fun (x : Nat) => places[x]? := by funext x; simp
        rw [this, hf]
        simp
      · exact (RM.run_fail he).elim
    · exact (RM.run_fail he).elim
  · rename_i z n el hz hu
    split at he
    · rename_i m hm
      split at he
      · rename_i cs hs
        have he := RM.run_done he
        subst he
        obtain ⟨v, hrun, _, hrel⟩ := zero_rel (K := K) (gh := gh) hz w
        obtain ⟨r, hf, hrr⟩ := fill_ok hs hrel (by simp) hparts
        refine EffOk.pure h (v := .agg r) ?_ ⟨r, rfl, hrr⟩
        simp only [execOp, ho, Instr.build, Sem.run_bind, hrun, Result.andThen_ok, run_underlying hu, run_sizeT hm, hmap, hf]
        simp
      · exact (RM.run_fail he).elim
    · exact (RM.run_fail he).elim
  · exact (RM.run_fail he).elim

/-! ### new variables -/
theorem newBlock_not {b : Nat} (h : Inv K σ gh a w) (hb : b = w.heap.size) : ¬ K.Pr b ∧ ¬ gh.F b := by
  subst hb
  exact ⟨fun hp => by have := h.prlt _ hp; have := h.grow; omega, fun hf => by have := h.Flt _ hf; omega⟩

theorem getElem?_set_has {l : List (Option Res)} {i : Nat} {x : Res} (h : i < l.length) : (l.set i (some x))[i]? = some (some x) := by simp [h]

theorem new_box (h : Inv K σ gh a w) {id : Nat} (hid : σ.res[id]? = some none) {G : X} (hG : (G.d K.Φ K.ρ).bool = true) {e : TypeId} {cs : List SC} {us : Array Value} (hr : relS K.Φ K.ρ w gh cs us.toList) :
    ∃ gh', Inv K ⟨σ.slots, σ.res.set id (some ⟨G, .box e cs false⟩)⟩ gh' a (w.alloc (.cells us e)) ∧ gh'.β id = some w.heap.size := by
  have hβ : gh.β id = none := by
    cases hb : gh.β id with
    | none => rfl
    | some b => obtain ⟨x, hx, _⟩ := h.beta id b hb; unfold St.has at hx; rw [hid] at hx; simp at hx
  have hlt : id < σ.res.length := (List.getElem?_eq_some_iff.1 hid).1
  let gh' : Gh := { gh with β := fun r => if r = id then some w.heap.size else gh.β r }
  have hle : gh.le gh' := ⟨fun r b hb => by
      show (if r = id then some w.heap.size else gh.β r) = some b
      rw [if_neg (by rintro rfl; rw [hβ] at hb; cases hb)]; exact hb, fun _ => Nat.le_refl _, fun _ _ _ => rfl, fun _ hf => hf⟩
  have hFb : ∀ b, gh.F b → (w.alloc (.cells us e)).heap[b]? = w.heap[b]? := fun b hb => Below.heap_alloc w _ b (h.Flt b hb)
  have hbid : gh'.β id = some w.heap.size := by simp [gh']
  refine ⟨gh', ?_, hbid⟩
  have hn := newBlock_not h rfl
  have hnl : ∀ r2 x2, σ.has r2 x2 → x2.on K → x2.k.live gh r2 ≠ some w.heap.size := fun r2 x2 hx2 hon2 hl2 => by have := (h.own r2 x2 _ hx2 hon2 hl2).2.2; omega
  refine h.step (T := fun r => r = id) ⟨hle, rfl, rfl, rfl, by simp, fun r hr => ⟨by simp [Ne.symm hr], by simp [gh', hr], rfl, rfl⟩, fun b hb _ => Below.heap_alloc w _ b hb,
    fun b hb => by have := h.Flt b hb; simp; omega, fun b hb => .inl hb, fun r x hT hx hon => ?_, fun r x b hT hx hon hl => ?_, fun r x r' x' b hT hT' _ _ _ _ _ _ => hT.trans hT'.symm, fun r b hT hb => ?_, fun r hT hr => ?_⟩
  · subst hT
    rw [getElem?_set_has hlt] at hx
    simp only [Option.some.injEq] at hx
    subst hx
    exact ⟨w.heap.size, us, hbid, heap_alloc_new w _, relS_mono hle hFb hr, fun hf => by cases hf⟩
  · subst hT
    rw [getElem?_set_has hlt] at hx
    simp only [Option.some.injEq] at hx
    subst hx
    simp only [RK.live, hbid, Option.some.injEq] at hl
    subst hl
    exact ⟨hn.1, hn.2, by simp, fun r2 x2 _ hx2 hon2 => hnl r2 x2 hx2 hon2⟩
  · subst hT
    exact ⟨_, getElem?_set_has hlt, hG⟩
  · subst hT
    exact ⟨_, getElem?_set_has hlt, hG⟩

theorem eff_alloc (h : Inv K σ gh a w) {e : TypeId} (ho : o.op = .alloc e) {G : X} (hG : (G.d K.Φ K.ρ).bool = true) {id : Nat} (hid : σ.res[id]? = some none) {cs : List SC} (hz : zeroCells P e = some cs) {nd : List Nd} :
    EffOk K σ P o a w ⟨.c (.ptr id 0), [(id, ⟨G, .box e cs false⟩)], nd⟩ := by
  obtain ⟨z, hrun, _, hrel⟩ := zero_rel (K := K) (gh := gh) hz w
  obtain ⟨gh', hI, hβ⟩ := new_box h hid hG (e := e) hrel
  refine Does.val (v := .pointer (some ⟨w.heap.size, 0, none⟩)) (w' := w.alloc (.cells z.cells e)) ?_ ⟨gh', by simpa [setAll] using hI, w.heap.size, hβ, rfl⟩
  simp [execOp, ho, Instr.alloc, hrun, newVar, newRow]

theorem eff_box (h : Inv K σ gh a w) {e : TypeId} {x : Operand} (ho : o.op = .box e x) {G : X} (hG : (G.d K.Φ K.ρ).bool = true) {id : Nat} (hid : σ.res[id]? = some none) {cs : List SC} (hc : cellsOf (strip G (σ.opd x)) = some cs)
    (hn : noAny cs = true) {nd : List Nd} : EffOk K σ P o a w ⟨.c (.ptr id 0), [(id, ⟨G, .box e cs false⟩)], nd⟩ := by
  have hrel := cells_rel hc (strip_rel hG (h.opd x)) hn
  obtain ⟨gh', hI, hβ⟩ := new_box h hid hG (e := e) hrel
  refine Does.val (v := .pointer (some ⟨w.heap.size, 0, none⟩)) (w' := w.alloc (.cells (a.eval x).cells e)) ?_ ⟨gh', by simpa [setAll] using hI, w.heap.size, hβ, rfl⟩
  simp [execOp, ho, Instr.box, newVar, newRow]

/-! ### stores -/
theorem SC.beq_eq : ∀ {s t : SC}, SC.beq s t = true → s = t
  | s, t, h => by
    unfold SC.beq at h
    split at h
    · simp only [Bool.and_eq_true] at h
      rw [CT.beq_eq _ _ h.1, X.beq_eq _ _ h.2]
    · simp only [Bool.and_eq_true, beq_iff_eq] at h
      rw [h.1, h.2]
    · cases h
theorem SC.beqs_eq : ∀ {s t : List SC}, SC.beqs s t = true → s = t
  | [], [], _ => rfl
  | a :: as, b :: bs, h => by
    simp only [SC.beqs, Bool.and_eq_true] at h
    rw [SC.beq_eq h.1, SC.beqs_eq h.2]
  | [], _ :: _, h => by simp [SC.beqs] at h
  | _ :: _, [], h => by simp [SC.beqs] at h

theorem setRow_get (w : World) (g : Nat) (cur cs : Array Value) (t : TypeId) (fr : Nat × Nat) (hg : w.heap[g]? = some (.cells cur t fr)) : (w.setRow g cs).heap[g]? = some (.cells cs t fr) :=
  setRow_heap w g cur cs t fr hg

theorem set_same {l : List (Option Res)} {r : Nat} {x : Res} (h : l[r]? = some (some x)) : l.set r (some x) = l := by
  apply List.ext_getElem?
  intro k
  by_cases hk : r = k
  · subst hk
    have := (List.getElem?_eq_some_iff.1 h).1
    rw [List.getElem?_set, if_pos rfl, if_pos this]
    exact h.symm
  · simp [hk]

theorem run_storeVar {t : TypeId} {b off : Nat} {cur : Array Value} {e : TypeId} {v : Value} (hs : sizeT P t = some v.cells.size) (hb : w.heap[b]? = some (.cells cur e (0, 0)))
    (hl : off + v.cells.size ≤ cur.size) (h1 : ∀ u ∈ v.cells.toList, u.oneCell' = true) :
    (storeVar t ⟨b, off, none⟩ v).run P w = .ok () (w.setRow b (cur.toList.take off ++ v.cells.toList ++ cur.toList.drop (off + v.cells.toList.length)).toArray) := by
  have := run_storeCells_at P b off e v.cells.toList 0 cur w hb (by simpa using hl) h1
  simp only [storeVar, Sem.run_bind, run_sizeT hs, Result.andThen_ok, ne_eq, not_true_eq_false, if_false, this, Nat.add_zero]

theorem store_box (h : Inv K σ gh a w) {r : Nat} {x : Res} (hx : σ.has r x) (hon : x.on K) {ety : TypeId} {cells : List SC} (hk : x.k = .box ety cells false) {b : Nat} (hβ : gh.β r = some b) {us : List Value} {cs : List SC} {off : Nat}
    (hr : relS K.Φ K.ρ w gh cs us) (hoff : off + cs.length ≤ cells.length) :
    ∃ cur, w.heap[b]? = some (.cells cur ety (0, 0)) ∧ off + us.length ≤ cur.size ∧
      Inv K ⟨σ.slots, σ.res.set r (some ⟨x.g, .box ety (setRange cells off cs) false⟩)⟩ gh a (w.setRow b (cur.toList.take off ++ us ++ cur.toList.drop (off + us.length)).toArray) := by
  have hok := h.res r x hx hon
  rw [hk] at hok
  obtain ⟨b', cur, hb', hg, hrel, _⟩ := hok
  obtain rfl : b' = b := Option.some.inj (hb'.symm.trans hβ)
  have hlt : r < σ.res.length := (List.getElem?_eq_some_iff.1 hx).1
  have hlive : x.k.live gh r = some b' := by rw [hk]; exact hβ
  obtain ⟨o1, o2, o3⟩ := h.own r x b' hx hon hlive
  have e1 := relS_length hrel
  have e2 := relS_length hr
  refine ⟨cur, hg, by simp at e1; omega, ?_⟩
  generalize hcs' : (cur.toList.take off ++ us ++ cur.toList.drop (off + us.length)).toArray = cs'
  have hFb : ∀ c, gh.F c → (w.setRow b' cs').heap[c]? = w.heap[c]? := fun c hc => setRow_other w b' c _ (by rintro rfl; exact o2 hc)
  refine h.step (T := fun q => q = r) ⟨Gh.le.refl gh, rfl, rfl, rfl, by simp, fun q hq => ⟨by simp [Ne.symm hq], rfl, rfl, rfl⟩,
    fun c hc hT => setRow_other w b' c _ (by rintro rfl; exact hT r x rfl hx hon hlive), fun c hc => by have := h.Flt c hc; simpa using this, fun c hc => .inl hc,
    fun q y hT hy hony => ?_, fun q y c hT hy hony hl => ?_, fun q y q' y' c hT hT' _ _ _ _ _ _ => hT.trans hT'.symm, fun q c hT hb => ?_, fun q hT hr => ?_⟩
  · subst hT
    rw [getElem?_set_has hlt] at hy
    simp only [Option.some.injEq] at hy
    subst hy
    refine ⟨b', cs', hβ, setRow_get w b' cur cs' ety (0, 0) hg, ?_, fun hf => by cases hf⟩
    subst hcs'
    exact relS_mono (Gh.le.refl gh) hFb (by simpa using relS_setRange off hrel hr)
  · subst hT
    rw [getElem?_set_has hlt] at hy
    simp only [Option.some.injEq] at hy
    subst hy
    simp only [RK.live] at hl
    obtain rfl : b' = c := Option.some.inj (hβ.symm.trans hl)
    refine ⟨o1, o2, by simpa using o3, fun r2 x2 hT2 hx2 hon2 hl2 => hT2 (h.inj r2 x2 _ x b' hx2 hon2 hx hon hl2 hlive)⟩
  · subst hT
    exact ⟨_, getElem?_set_has hlt, hon⟩
  · subst hT
    exact ⟨_, getElem?_set_has hlt, hon⟩

theorem cellsData_rep : ∀ {cts : List CT} {cs : List SC} {xs : List X}, cellsData cts cs = some xs → ∀ (us : List Value), relS K.Φ K.ρ w gh cs us →
    xs.length = cts.length ∧ cts.length ≤ cs.length ∧ ∀ j ct, cts[j]? = some ct → Rep w gh.F ct (us.getD j undef) (((consX xs).ds K.Φ K.ρ).getD j default)
  | cts, cs, xs, h => by
    unfold cellsData at h
    split at h
    · simp only [Option.some.injEq] at h
      subst h
      intro us _
      exact ⟨rfl, Nat.zero_le _, by simp⟩
    · rename_i ct cts ct' e cs
      split at h
      · rename_i hct
        have := CT.beq_eq _ _ hct
        subst this
        cases hr : cellsData cts cs with
        | none => simp [hr] at h
        | some ys =>
          simp only [hr, Option.map_some, Option.some.injEq] at h
          subst h
          intro us hrel
          cases us with
          | nil => exact hrel.elim
          | cons u us =>
            obtain ⟨i1, i2, i3⟩ := cellsData_rep hr _ hrel.2
            refine ⟨by simp [i1], by simpa using i2, fun j ct hj => ?_⟩
            cases j with
            | zero =>
              simp only [List.getElem?_cons_zero, Option.some.injEq] at hj
              subst hj
              simp only [consX, X.ds, List.getD_cons_zero]
              exact hrel.1
            | succ j => simpa [consX, X.ds] using i3 j ct (by simpa using hj)
      · cases h
    · rename_i e1 cts1 cts cs
      cases hr : cellsData cts cs with
      | none => simp [hr] at h
      | some ys =>
        simp only [hr, Option.map_some, Option.some.injEq] at h
        subst h
        intro us hrel
        cases us with
        | nil => exact hrel.elim
        | cons u us =>
          obtain ⟨i1, i2, i3⟩ := cellsData_rep hr _ hrel.2
          refine ⟨by simp [i1], by simpa using i2, fun j ct hj => ?_⟩
          cases j with
          | zero =>
            simp only [List.getElem?_cons_zero, Option.some.injEq] at hj
            subst hj
            obtain ⟨hv, _⟩ := hrel.1
            subst hv
            simp only [consX, X.ds, List.getD_cons_zero]
            exact Rep.nil
          | succ j => simpa [consX, X.ds] using i3 j ct (by simpa using hj)
    · cases h

theorem ds_consX_length (xs : List X) : ((consX xs).ds K.Φ K.ρ).length = xs.length := by
  induction xs with
  | nil => rfl
  | cons x xs ih => simp [consX, X.ds, ih]

theorem splice_length {e cs : List D} {j : Nat} (h : j + cs.length ≤ e.length) : (splice e j cs).length = e.length := by
  simp [splice]; omega
theorem splice_get {e cs : List D} {j : Nat} (h : j + cs.length ≤ e.length) (k : Nat) : (splice e j cs).getD k default = if j ≤ k ∧ k < j + cs.length then cs.getD (k - j) default else e.getD k default := by
  simp only [splice, List.getD]
  by_cases h1 : k < j
  · rw [if_neg (by omega), List.append_assoc, List.getElem?_append_left (by simp; omega), List.getElem?_take, if_pos h1]
  · by_cases h2 : k < j + cs.length
    · rw [if_pos (by omega), List.getElem?_append_left (by simp; omega), List.getElem?_append_right (by simp; omega)]
      congr 2
      simp; omega
    · rw [if_neg (by omega), List.getElem?_append_right (by simp; omega), List.getElem?_drop]
      congr 2
      simp; omega

theorem seg_get {α : Type} (l u : List α) (p k : Nat) (h : p + u.length ≤ l.length) : (l.take p ++ u ++ l.drop (p + u.length))[k]? = if p ≤ k ∧ k < p + u.length then u[k - p]? else l[k]? := by
  rw [List.append_assoc]
  by_cases h1 : k < p
  · rw [if_neg (by omega), List.getElem?_append_left (by simp; omega), List.getElem?_take, if_pos h1]
  · have hm : min p l.length = p := by omega
    by_cases h2 : k < p + u.length
    · rw [if_pos (by omega), List.getElem?_append_right (by simp; omega), List.length_take, hm, List.getElem?_append_left (by omega)]
    · rw [if_neg (by omega), List.getElem?_append_right (by simp; omega), List.length_take, hm, List.getElem?_append_right (by omega), List.getElem?_drop]
      congr 1
      omega

/-- one store into a row of the run's own -/
theorem store_row (h : Inv K σ gh a w) {r : Nat} {x : Res} (hx : σ.has r x) (hon : x.on K) {ety : TypeId} {cts : List CT} {content : X} {ver : Nat} (hk : x.k = .row ety cts content ver false) {b len cap : Nat}
    (hrv : gh.rv r = .slice (some ⟨b, 0, none⟩) len cap) {i : X} (hi0 : 0 ≤ (i.d K.Φ K.ρ).int) (hi1 : (i.d K.Φ K.ρ).int < len) {us : List Value} {cs : List SC} {off : Nat} {xs : List X}
    (hr : relS K.Φ K.ρ w gh cs us) (hoff : off + cs.length ≤ cts.length) (hcd : cellsData ((cts.drop off).take cs.length) cs = some xs) :
    ∃ cur, w.heap[b]? = some (.cells cur ety (0, 0)) ∧ ((i.d K.Φ K.ρ).int.toNat * cts.length + off) + us.length ≤ cur.size ∧
      Inv K ⟨σ.slots, σ.res.set r (some ⟨x.g, .row ety cts (.upd off content i (consX xs)) ver false⟩)⟩ gh a
        (w.setRow b (cur.toList.take ((i.d K.Φ K.ρ).int.toNat * cts.length + off) ++ us ++ cur.toList.drop (((i.d K.Φ K.ρ).int.toNat * cts.length + off) + us.length)).toArray) := by
  have hok := h.res r x hx hon
  rw [hk] at hok
  obtain ⟨hv1, hv2, hv3, zs, vals, hd, hown, hrep⟩ := hok
  rw [hrv] at hown
  rcases hown with ⟨_, _, _, hbad⟩ | ⟨g, cap', cur, hq, hc0, hl0, hg, hlc, hcm, hcs, htk⟩
  · simp only [Value.slice.injEq] at hbad; omega
  simp only [Value.slice.injEq, Option.some.injEq, Addr.mk.injEq] at hq
  obtain ⟨⟨rfl, _⟩, rfl, rfl⟩ := hq
  obtain ⟨c9, rfl⟩ : ∃ c, cap = c + 1 := ⟨cap - 1, by omega⟩
  have hlt : r < σ.res.length := (List.getElem?_eq_some_iff.1 hx).1
  have hlive : x.k.live gh r = some b := by rw [hk]; simp [RK.live, hrv, ownB]
  obtain ⟨o1, o2, o3⟩ := h.own r x b hx hon hlive
  have e2 := relS_length hr
  obtain ⟨c1, c2, c3⟩ := cellsData_rep hcd us hr
  have hcl : ((cts.drop off).take cs.length).length = cs.length := by simp; omega
  generalize hn : (i.d K.Φ K.ρ).int.toNat = n at *
  have hnl : n < zs.length := by omega
  have hpos : n * cts.length + off + us.length ≤ zs.length * cts.length := by
    have := mul_lt_bound (j := off + us.length) (m := cts.length) hnl (by omega)
    omega
  have hsz : zs.length * cts.length ≤ cur.size := by rw [hcs]; exact Nat.mul_le_mul_right _ hlc
  refine ⟨cur, hg, by omega, ?_⟩
  generalize hcs' : (cur.toList.take (n * cts.length + off) ++ us ++ cur.toList.drop (n * cts.length + off + us.length)).toArray = cs'
  have hFb : ∀ c, gh.F c → (w.setRow b cs').heap[c]? = w.heap[c]? := fun c hc => setRow_other w b c _ (by rintro rfl; exact o2 hc)
  refine h.step (T := fun q => q = r) ⟨Gh.le.refl gh, rfl, rfl, rfl, by simp, fun q hq => ⟨by simp [Ne.symm hq], rfl, rfl, rfl⟩,
    fun c hc hT => setRow_other w b c _ (by rintro rfl; exact hT r x rfl hx hon hlive), fun c hc => by have := h.Flt c hc; simpa using this, fun c hc => .inl hc,
    fun q y hT hy hony => ?_, fun q y c hT hy hony hl => ?_, fun q y q' y' c hT hT' _ _ _ _ _ _ => hT.trans hT'.symm, fun q c hT hb => ?_, fun q hT hr => ?_⟩
  · subst hT
    rw [getElem?_set_has hlt] at hy
    simp only [Option.some.injEq] at hy
    subst hy
    -- the new data and the new cells
    have hX : ((X.upd off content i (consX xs)).d K.Φ K.ρ) = .l (zs.set n (splice (zs.getD n []) off ((consX xs).ds K.Φ K.ρ))) := by
      simp only [X.d, hd, D.lst_l, hn]
    refine ⟨hv1, hv2, hv3, _, (cs'.toList.take (zs.length * cts.length)), hX, ?_, ?_⟩
    · rw [hrv]
      simp only [List.length_set]
      refine .inr ⟨b, c9 + 1, cs', rfl, hc0, ?_, setRow_get w b cur cs' ety (0, 0) hg, hlc, hcm, ?_, rfl⟩
      · subst hcs'
        simp; omega
      · subst hcs'
        simp; omega
    · intro k hk'
      simp only [List.length_set] at hk'
      have hdl : ((consX xs).ds K.Φ K.ρ).length = us.length := by rw [ds_consX_length, c1, hcl, e2]
      have hzn := (hrep n hnl).1
      by_cases hkn : k = n
      · subst hkn
        have hget : (zs.set k (splice (zs.getD k []) off ((consX xs).ds K.Φ K.ρ))).getD k [] = splice (zs.getD k []) off ((consX xs).ds K.Φ K.ρ) := by
          simp [List.getD, hk']
        rw [hget]
        refine ⟨by rw [splice_length (by rw [hzn, hdl]; omega)]; exact hzn, fun j ct hj => ?_⟩
        have hjl : j < cts.length := (List.getElem?_eq_some_iff.1 hj).1
        have hb1 := mul_lt_bound (j := j + 1) (m := cts.length) hk' (by omega)
        rw [splice_get (by rw [hzn, hdl]; omega), hdl]
        have hc' : (cs'.toList.take (zs.length * cts.length)).getD (k * cts.length + j) undef = if off ≤ j ∧ j < off + us.length then us.getD (j - off) undef else cur.getD (k * cts.length + j) undef := by
          rw [List.getD, List.getElem?_take, if_pos (by omega), ← hcs']
          rw [show (List.toArray (cur.toList.take (k * cts.length + off) ++ us ++ cur.toList.drop (k * cts.length + off + us.length))).toList = cur.toList.take (k * cts.length + off) ++ us ++ cur.toList.drop (k * cts.length + off + us.length) from rfl,
            seg_get _ _ _ _ (by simp; omega)]
          by_cases hin : off ≤ j ∧ j < off + us.length
          · rw [if_pos hin, if_pos (by omega), List.getD]
            congr 2
            omega
          · rw [if_neg hin, if_neg (by omega), Array.getD_eq_getD_getElem?, Array.getElem?_toList]
        rw [hc']
        by_cases hin : off ≤ j ∧ j < off + us.length
        · rw [if_pos hin, if_pos hin]
          have := c3 (j - off) ct (by
            rw [List.getElem?_take, if_pos (by omega), List.getElem?_drop]
            rw [show off + (j - off) = j by omega]; exact hj)
          exact this.mono (fun _ h => h) hFb
        · rw [if_neg hin, if_neg hin]
          have h2 := (hrep k hk').2 j ct hj
          have e3 : vals.getD (k * cts.length + j) undef = cur.getD (k * cts.length + j) undef := by
            rw [← htk, List.getD, List.getElem?_take, if_pos (by omega)]
            simp [Array.getD_eq_getD_getElem?]
          rw [e3] at h2
          exact h2.mono (fun _ h => h) hFb
      · have hget : (zs.set n (splice (zs.getD n []) off ((consX xs).ds K.Φ K.ρ))).getD k [] = zs.getD k [] := by
          simp only [List.getD, List.getElem?_set]
          rw [if_neg (Ne.symm hkn)]
        rw [hget]
        refine ⟨(hrep k hk').1, fun j ct hj => ?_⟩
        have hjl : j < cts.length := (List.getElem?_eq_some_iff.1 hj).1
        have hb1 := mul_lt_bound (j := j + 1) (m := cts.length) hk' (by omega)
        have h2 := (hrep k hk').2 j ct hj
        have e3 : vals.getD (k * cts.length + j) undef = (cs'.toList.take (zs.length * cts.length)).getD (k * cts.length + j) undef := by
          rw [← htk, List.getD, List.getElem?_take, if_pos (by omega), List.getD, List.getElem?_take, if_pos (by omega), ← hcs']
          rw [show (List.toArray (cur.toList.take (n * cts.length + off) ++ us ++ cur.toList.drop (n * cts.length + off + us.length))).toList = cur.toList.take (n * cts.length + off) ++ us ++ cur.toList.drop (n * cts.length + off + us.length) from rfl,
            seg_get _ _ _ _ (by simp; omega)]
          rcases Nat.lt_or_ge k n with hlt' | hge
          · have h3 := mul_lt_bound (i := k) (len := n) (j := j + 1) (m := cts.length) hlt' (by omega)
            rw [if_neg (by omega)]
          · have h3 := mul_lt_bound (i := n) (len := k) (j := off + us.length) (m := cts.length) (by omega) (by omega)
            rw [if_neg (by omega)]
        rw [e3] at h2
        exact h2.mono (fun _ h => h) hFb
  · subst hT
    rw [getElem?_set_has hlt] at hy
    simp only [Option.some.injEq] at hy
    subst hy
    simp only [RK.live, hrv, ownB, Option.some.injEq] at hl
    subst hl
    exact ⟨o1, o2, by simpa using o3, fun r2 x2 hT2 hx2 hon2 hl2 => hT2 (h.inj r2 x2 _ x b hx2 hon2 hx hon hl2 hlive)⟩
  · subst hT
    exact ⟨_, getElem?_set_has hlt, hon⟩
  · subst hT
    exact ⟨_, getElem?_set_has hlt, hon⟩

theorem isTt_eq {g : X} (h : isTt g = true) : g = tt := by
  cases g <;> simp [isTt] at h
  subst h; rfl

theorem eff_store (h : Inv K σ gh a w) {t : TypeId} {x y : Operand} (ho : o.op = .store t x y) {G : X} (hG : (G.d K.Φ K.ρ).bool = true) {eo : EO}
    (he : (effStore P G t (strip G (σ.opd x)) (strip G (σ.opd y))).run σ.res = some eo) : EffOk K σ P o a w eo := by
  have hx := strip_rel hG (h.opd x)
  have hy := strip_rel hG (h.opd y)
  unfold effStore at he
  split at he
  · rename_i cs r off hcs e
    rw [e] at hx
    obtain ⟨b, hβ, hv⟩ := hx
    obtain ⟨R, hR, he2⟩ := RM.run_res he
    split at he2
    · rename_i ety cells frz hk
      split at he2
      · rename_i hc
        simp only [Bool.and_eq_true, Bool.not_eq_eq_eq_not, Bool.not_true] at hc
        obtain ⟨⟨⟨⟨⟨hc1, hc2⟩, rfl⟩, hc4⟩, hc5⟩, hc6⟩ := hc
        have he3 := RM.run_done he2
        subst he3
        have hon : R.on K := isTt_sound hc2
        have hcr := cells_rel hcs hy hc6
        have hl := relS_length hcr
        simp only [Array.length_toList] at hl
        obtain ⟨cur, hg, hfit, hI⟩ := store_box h hR hon hk hβ hcr (Nat.le_of_ble_eq_true hc5)
        have hrun := run_storeVar (P := P) (v := a.eval y) (off := off) (by rw [← hl]; exact sizeEq_spec hc4) hg (by simpa using hfit) (relS_oneCell hcr hc6)
        have hrun2 : (execOp a.eval o).run P w = .ok .skip (w.setRow b (cur.toList.take off ++ (a.eval y).cells.toList ++ cur.toList.drop (off + (a.eval y).cells.toList.length)).toArray) := by
          simp only [execOp, ho, Instr.storeAt, Instr.sureAddr, hv, Sem.run_bind, Sem.run_pure, Result.andThen_ok, hrun]
        refine Does.skip hrun2 ⟨gh, ?_, rfl⟩
        · simp only
          split
          · rename_i hbe
            have := SC.beqs_eq hbe
            rw [this] at hI
            have e0 : (some ⟨R.g, .box ety cells false⟩ : Option Res) = some R := by rw [← hk]
            rw [e0, set_same hR] at hI
            exact hI
          · exact hI
      · exact (RM.run_fail he2).elim
    · exact (RM.run_fail he2).elim
  · rename_i cs r ver m i off hcs e
    rw [e] at hx
    obtain ⟨_, h1, h2, h3⟩ := hx
    obtain ⟨R, hR, he2⟩ := RM.run_res he
    split at he2
    · rename_i ety cts content ver' frz hk
      split at he2
      · rename_i xs hxs
        split at he2
        · rename_i hc
          simp only [Bool.and_eq_true, Bool.not_eq_eq_eq_not, Bool.not_true, beq_iff_eq] at hc
          obtain ⟨⟨⟨⟨⟨⟨hc1, hc2⟩, rfl⟩, rfl⟩, rfl⟩, hc4⟩, hc5⟩ := hc
          have he3 := RM.run_done he2
          subst he3
          have hon : R.on K := isTt_sound hc2
          have hoff := Nat.le_of_ble_eq_true hc5
          have hna : noAny cs = true := by
            have key : ∀ (cts : List CT) (cs : List SC) (xs : List X), cellsData cts cs = some xs → cts.length = cs.length → noAny cs = true := by
              intro cts
              induction cts with
              | nil => intro cs xs _ hl; cases cs with | nil => rfl | cons => simp at hl
              | cons ct cts ih =>
                intro cs xs hh hl
                cases cs with
                | nil => rfl
                | cons c cs =>
                  unfold cellsData at hh
                  split at hh
                  · rename_i hh2; cases hh2
                  · rename_i q1 q2 q3 q4 q5 hh1 hh2
                    simp only [List.cons.injEq] at hh1 hh2
                    obtain ⟨rfl, rfl⟩ := hh1
                    obtain ⟨rfl, rfl⟩ := hh2
                    split at hh
                    · cases hr : cellsData cts cs with
                      | none => simp [hr] at hh
                      | some ys => simpa [noAny] using ih cs ys hr (by simpa using hl)
                    · cases hh
                  · rename_i q1 q2 q3 q4 hh1 hh2
                    simp only [List.cons.injEq] at hh1 hh2
                    obtain ⟨rfl, rfl⟩ := hh1
                    obtain ⟨rfl, rfl⟩ := hh2
                    cases hr : cellsData cts cs with
                    | none => simp [hr] at hh
                    | some ys => simpa [noAny] using ih cs ys hr (by simpa using hl)
                  · cases hh
            exact key _ _ _ hxs (by simp; omega)
          have hcr := cells_rel hcs hy hna
          have hl := relS_length hcr
          simp only [Array.length_toList] at hl
          have hok := h.res r R hR hon
          rw [hk] at hok
          obtain ⟨b, len, cap, hrv, hi0, hi1, hv⟩ := h3 hok.1
          obtain ⟨cur, hg, hfit, hI⟩ := store_row h hR hon hk hrv hi0 hi1 hcr hoff hxs
          have hrun := run_storeVar (P := P) (v := a.eval y) (off := (i.d K.Φ K.ρ).int.toNat * cts.length + off) (by rw [← hl]; exact sizeEq_spec hc4) hg (by simpa using hfit) (relS_oneCell hcr hna)
          have hrun2 : (execOp a.eval o).run P w = .ok .skip (w.setRow b (cur.toList.take ((i.d K.Φ K.ρ).int.toNat * cts.length + off) ++ (a.eval y).cells.toList ++ cur.toList.drop (((i.d K.Φ K.ρ).int.toNat * cts.length + off) + (a.eval y).cells.toList.length)).toArray) := by
            simp only [execOp, ho, Instr.storeAt, Instr.sureAddr, hv, Sem.run_bind, Sem.run_pure, Result.andThen_ok, hrun]
          exact Does.skip hrun2 ⟨gh, hI, rfl⟩
        · exact (RM.run_fail he2).elim
      · exact (RM.run_fail he2).elim
    · exact (RM.run_fail he2).elim
  · exact (RM.run_fail he).elim

end
end Go.RV
