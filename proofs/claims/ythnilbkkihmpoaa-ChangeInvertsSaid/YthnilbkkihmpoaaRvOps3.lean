/-
  RV, part 6: addresses and loads.
-/
import Derived.Test.YthnilbkkihmpoaaRvOps2
namespace Go.RV
open Go.RowKit

theorem addr_add (b o n : Nat) : (⟨b, o, none⟩ : Addr).add n = ⟨b, o + n, none⟩ := by
  unfold Addr.add; split <;> simp_all

section
variable {P : Program} {K : Ctx} {σ : St} {gh : Gh} {a : Act} {w : World} {o : Oper}

theorem getD_has {r : Nat} {R : Res} (h : σ.res.getD r none = some R) : σ.has r R := by
  unfold St.has
  rw [List.getD] at h
  cases hr : σ.res[r]? with
  | none => rw [hr] at h; cases h
  | some x => rw [hr] at h; simp at h; rw [h]

theorem RM.run_res {r : Nat} {k : Res → RM} {eo : EO} (h : (RM.res r k).run σ.res = some eo) : ∃ R, σ.has r R ∧ (k R).run σ.res = some eo := by
  simp only [RM.run] at h
  split at h
  · rename_i R hR; exact ⟨R, getD_has hR, h⟩
  · cases h

theorem RM.run_val {v : Option SV} {nd : List Nd} {eo : EO} (h : (RM.val v nd).run σ.res = some eo) : ∃ s, v = some s ∧ eo = ⟨s, [], nd⟩ := by
  unfold RM.val at h
  split at h
  · simp only [RM.run, Option.some.injEq] at h; exact ⟨_, rfl, h.symm⟩
  · simp [RM.run] at h

theorem RM.run_fail {rs : List (Option Res)} {eo : EO} (h : RM.fail.run rs = some eo) : False := by simp [RM.run] at h
theorem RM.run_done {rs : List (Option Res)} {e eo : EO} (h : (RM.done e).run rs = some eo) : e = eo := by simpa [RM.run] using h

theorem cell_at {b off : Nat} {cur : Array Value} {e : TypeId} {fz : Nat × Nat} (hb : w.heap[b]? = some (.cells cur e fz)) : w.cell? ⟨b, off, none⟩ = cur[off]? := by
  simp [World.cell?, hb]

theorem run_loadVar_cells {t : TypeId} {n b off : Nat} {ag : Bool} {cur : Array Value} {e : TypeId} {fz : Nat × Nat} (hs : sizeT P t = some n) (ha : aggT P t = some ag)
    (hb : w.heap[b]? = some (.cells cur e fz)) (hl : off + n ≤ cur.size) (h1 : ag = false → n = 1) :
    (loadVar t ⟨b, off, none⟩).run P w = .ok (if ag then .agg ((cur.toList.drop off).take n).toArray else ((cur.toList.drop off).take n).headD undef) w := by
  simp only [loadVar, Sem.run_bind, run_aggT ha, Result.andThen_ok, Sem.run_ite]
  cases ag with
  | true =>
    have hlen : ((cur.toList.drop off).take n).length = n := by simp; omega
    have hc := run_loadCells_list (P := P) w ⟨b, off, none⟩ ((cur.toList.drop off).take n) (fun j v hj => by
      rw [addr_add, cell_at hb]
      rw [List.getElem?_take] at hj
      split at hj
      · simpa using hj
      · cases hj)
    rw [hlen] at hc
    simp only [if_true, run_sizeT hs, Result.andThen_ok, hc, Sem.run_pure]
  | false =>
    have hn := h1 rfl
    subst hn
    have hlt : off < cur.size := by omega
    simp only [Bool.false_eq_true, if_false, run_load, cell_at hb]
    have : cur[off]? = some cur[off] := by simp [hlt]
    rw [this]
    simp only
    congr 1
    rw [List.take_one]
    simp [List.head?_drop, hlt]

theorem relS_dataCells {F : Nat → Prop} {cts : List CT} {mk : Nat → X} : ∀ {n off : Nat} {vals : List Value}, vals.length = n → gh.F = F →
    (∀ k, k < n → Rep w F (cts.getD (off + k) .bool) (vals.getD k undef) ((mk (off + k)).d K.Φ K.ρ)) → relS K.Φ K.ρ w gh (dataCells cts mk off n) vals
  | 0, off, [], _, _, _ => trivial
  | n + 1, off, v :: vals, hl, hF, h => by
    refine ⟨?_, relS_dataCells (off := off + 1) (by simpa using hl) hF fun k hk => ?_⟩
    · have := h 0 (by omega)
      subst hF
      exact this
    · have := h (k + 1) (by omega)
      rw [show off + 1 + k = off + (k + 1) by omega]
      simpa using this
  | 0, _, _ :: _, hl, _, _ => by simp at hl
  | _ + 1, _, [], hl, _, _ => by simp at hl

theorem dataCells_length {cts : List CT} {mk : Nat → X} : ∀ {n off : Nat}, (dataCells cts mk off n).length = n
  | 0, _ => rfl
  | n + 1, off => by simp [dataCells, dataCells_length]

theorem ct_at {cts : List CT} {k : Nat} (h : k < cts.length) : cts[k]? = some (cts.getD k .bool) := by
  simp [List.getD, h]

/-- one load: the cells that lie there, as told -/
theorem load_core (h : Inv K σ gh a w) {t : TypeId} {x : Operand} (ho : o.op = .load t x) {n : Nat} {ag : Bool} (hs : sizeT P t = some n) (ha : aggT P t = some ag)
    {b off : Nat} {cur : Array Value} {e : TypeId} {fz : Nat × Nat} (hv : a.eval x = .pointer (some ⟨b, off, none⟩)) (hb : w.heap[b]? = some (.cells cur e fz)) (hl : off + n ≤ cur.size)
    {cs : List SC} (hr : relS K.Φ K.ρ w gh cs ((cur.toList.drop off).take n)) {s : SV} (hm : mkVal ag cs = some s) {nd : List Nd} : EffOk K σ P o a w ⟨s, [], nd⟩ := by
  have h1 : ag = false → n = 1 := by
    rintro rfl
    have e1 := mkVal_one hm
    have e2 := relS_length hr
    simp at e2
    omega
  refine EffOk.pure h ?_ (rel_mkVal hm hr)
  have := run_loadVar_cells (P := P) hs ha hb hl h1
  simp [execOp, ho, hv, Instr.loadAt, Instr.sureAddr, this]

theorem rep_sl {F : Nat → Prop} {e : TypeId} {cts : List CT} {g oo len cap : Nat} {d : D} (h : Rep w F (.sl e cts) (.slice (some ⟨g, oo, none⟩) len cap) d) {i0 : Int} (h0 : 0 ≤ i0) (hi0 : i0 < len) :
    ∃ cur t fz, F g ∧ w.heap[g]? = some (.cells cur t fz) ∧ len ≤ cap ∧ cap ≤ maxLen ∧ oo + cap * cts.length ≤ cur.size ∧ d = .l d.lst ∧ d.lst.length = len ∧ (∀ i, i < len → (d.lst.getD i []).length = cts.length) ∧
      ∀ i j ct, i < len → cts[j]? = some ct → Rep w F ct (cur.getD (oo + i * cts.length + j) undef) ((d.lst.getD i []).getD j default) := by
  cases h with
  | nil => simp at hi0; omega
  | sl hF hg hl hm hc hn hx hr => exact ⟨_, _, _, hF, hg, hl, hm, hc, rfl, hn, hx, hr⟩

theorem rep_sl_any {F : Nat → Prop} {e : TypeId} {cts : List CT} {v : Value} {d : D} (h : Rep w F (.sl e cts) v d) :
    ((∃ q, v = .slice q 0 0) ∧ d = .l []) ∨ ∃ g oo len cap, v = .slice (some ⟨g, oo, none⟩) len cap ∧ d.lst.length = len ∧ len ≤ cap := by
  cases h with
  | nil => exact .inl ⟨⟨_, rfl⟩, rfl⟩
  | sl hF hg hl hm hc hn hx hr => exact .inr ⟨_, _, _, _, rfl, hn, hl⟩

theorem rep_pt {F : Nat → Prop} {cts : List CT} {v : Value} {d : D} (h : Rep w F (.pt cts) v d) :
    ∃ g oo cur t fz, v = .pointer (some ⟨g, oo, none⟩) ∧ F g ∧ w.heap[g]? = some (.cells cur t fz) ∧ oo + cts.length ≤ cur.size ∧ d = .p d.ptd ∧ d.ptd.length = cts.length ∧
      ∀ j ct, cts[j]? = some ct → Rep w F ct (cur.getD (oo + j) undef) (d.ptd.getD j default) := by
  cases h with
  | pt hF hg hc hn hr => exact ⟨_, _, _, _, _, rfl, hF, hg, hc, rfl, hn, hr⟩

theorem getD_slice (cur : Array Value) (off n k : Nat) (h : k < n) : ((cur.toList.drop off).take n).getD k undef = cur.getD (off + k) undef := by
  simp [List.getD, h, Array.getD_eq_getD_getElem?]

theorem mul_lt_bound {i len m j : Nat} (hi : i < len) (hj : j ≤ m) : i * m + j ≤ len * m := by
  have : (i + 1) * m ≤ len * m := Nat.mul_le_mul_right m hi
  rw [Nat.add_mul] at this
  omega

/-- a row that is the run's own, as cells -/
theorem row_cells {r : Nat} {ety : TypeId} {cts : List CT} {content : X} {ver : Nat} {frz : Bool} (hR : ResOk K.Φ K.ρ w gh r (.row ety cts content ver frz)) {b len cap : Nat} (hv : gh.rv r = .slice (some ⟨b, 0, none⟩) len cap) {i0 : Int} (h0 : 0 ≤ i0) (hi0 : i0 < len) :
    ∃ cur e fz, w.heap[b]? = some (.cells cur e fz) ∧ len * cts.length ≤ cur.size ∧ (content.d K.Φ K.ρ).lst.length = len ∧
      ∀ i j ct, i < len → cts[j]? = some ct → Rep w gh.F ct (cur.getD (i * cts.length + j) undef) (((content.d K.Φ K.ρ).lst.getD i []).getD j default) := by
  obtain ⟨_, _, _, hR⟩ := hR
  cases frz with
  | true =>
    simp only [if_true] at hR
    rw [hv] at hR
    obtain ⟨cur, t, fz, hF, hg, hl, hm, hc, hd, hn, hx, hr⟩ := rep_sl hR h0 hi0
    refine ⟨cur, t, fz, hg, ?_, hn, fun i j ct hi hj => ?_⟩
    · have := Nat.mul_le_mul_right cts.length hl; omega
    · have := hr i j ct hi hj; simpa using this
  | false =>
    simp only [Bool.false_eq_true, if_false] at hR
    obtain ⟨xs, vals, hd, hown, hrep⟩ := hR
    rw [hv] at hown
    rcases hown with ⟨_, _, q, h1⟩ | ⟨g, cap', cur, h1, hc0, hlen, hg, hl, hm, hs, ht⟩
    · simp only [Value.slice.injEq] at h1
      omega
    · simp only [Value.slice.injEq, Option.some.injEq, Addr.mk.injEq] at h1
      obtain ⟨⟨rfl, _⟩, rfl, rfl⟩ := h1
      refine ⟨cur, ety, (0, 0), hg, by rw [hs]; exact Nat.mul_le_mul_right _ hl, by rw [hd]; rfl, fun i j ct hi hj => ?_⟩
      have h2 := (hrep i hi).2 j ct hj
      rw [hd]
      have hjl : j < cts.length := (List.getElem?_eq_some_iff.1 hj).1
      have hlt := mul_lt_bound (j := j + 1) (m := cts.length) hi (by omega)
      have e : vals.getD (i * cts.length + j) undef = cur.getD (i * cts.length + j) undef := by
        rw [← ht, List.getD, List.getElem?_take, if_pos (by omega)]
        simp [Array.getD_eq_getD_getElem?]
      rw [e] at h2
      exact h2

theorem eff_load (h : Inv K σ gh a w) {t : TypeId} {x : Operand} (ho : o.op = .load t x) {G : X} (hG : (G.d K.Φ K.ρ).bool = true) {eo : EO}
    (he : (effLoad P G t (strip G (σ.opd x))).run σ.res = some eo) : EffOk K σ P o a w eo := by
  have hx := strip_rel hG (h.opd x)
  unfold effLoad at he
  split at he
  case h_2 => exact (RM.run_fail he).elim
  rename_i n ag hs ha
  split at he
  case h_1 r off e =>
    rw [e] at hx
    obtain ⟨b, hβ, hv⟩ := hx
    obtain ⟨R, hR, he⟩ := RM.run_res he
    split at he
    · rename_i ety cells frz hk
      split at he
      · rename_i hc
        simp only [Bool.and_eq_true] at hc
        have hon : R.on K := entails_sound _ _ hc.1 hG
        have hok := h.res r R hR hon
        rw [hk] at hok
        obtain ⟨b', cur, hb', hg, hrel, _⟩ := hok
        obtain rfl : b' = b := Option.some.inj (hb'.symm.trans hβ)
        obtain ⟨s, hs', rfl⟩ := RM.run_val he
        have hl : off + n ≤ cur.size := by have := relS_length hrel; have := Nat.le_of_ble_eq_true hc.2; simp at *; omega
        exact load_core h ho hs ha hv hg hl (relS_take n (relS_drop off hrel)) hs'
      · exact (RM.run_fail he).elim
    · exact (RM.run_fail he).elim
  case h_2 ee cts s i off e =>
    rw [e] at hx
    obtain ⟨g, oo, len, cap, hRep, hi0, hi1, hv⟩ := hx
    obtain ⟨cur, t', fz, hF, hg, hl, hm, hc, hd, hn, hx', hr⟩ := rep_sl hRep hi0 hi1
    split at he
    · rename_i hle
      have hle := Nat.le_of_ble_eq_true hle
      obtain ⟨s', hs', rfl⟩ := RM.run_val he
      have hlt : (i.d K.Φ K.ρ).int.toNat < len := by omega
      have hb := mul_lt_bound (j := off + n) (m := cts.length) hlt hle
      have hb2 := Nat.mul_le_mul_right cts.length hl
      refine load_core h ho hs ha hv hg (by omega) (relS_dataCells (F := gh.F) (by simp; omega) rfl fun k hk => ?_) hs'
      rw [getD_slice _ _ _ _ hk]
      have := hr _ (off + k) _ hlt (ct_at (by omega))
      simpa [X.d, Nat.add_assoc] using this
    · exact (RM.run_fail he).elim
  case h_3 cts p e =>
    rw [e] at hx
    obtain ⟨g, oo, cur, t', fz, hv, hF, hg, hc, hd, hn, hr⟩ := rep_pt hx
    split at he
    · rename_i hle
      have hle := Nat.le_of_ble_eq_true hle
      obtain ⟨s', hs', rfl⟩ := RM.run_val he
      refine load_core h ho hs ha hv hg (by omega) (relS_dataCells (F := gh.F) (by simp; omega) rfl fun k hk => ?_) hs'
      rw [getD_slice _ _ _ _ hk]
      have := hr (0 + k) _ (ct_at (by omega))
      simpa [X.d] using this
    · exact (RM.run_fail he).elim
  case h_4 cts p off e =>
    rw [e] at hx
    obtain ⟨g, oo, hRep, hv⟩ := hx
    obtain ⟨g', oo', cur, t', fz, hv', hF, hg, hc, hd, hn, hr⟩ := rep_pt hRep
    simp only [Value.pointer.injEq, Option.some.injEq, Addr.mk.injEq] at hv'
    obtain ⟨rfl, rfl, _⟩ := hv'
    split at he
    · rename_i hle
      have hle := Nat.le_of_ble_eq_true hle
      obtain ⟨s', hs', rfl⟩ := RM.run_val he
      refine load_core h ho hs ha hv hg (by omega) (relS_dataCells (F := gh.F) (by simp; omega) rfl fun k hk => ?_) hs'
      rw [getD_slice _ _ _ _ hk]
      have := hr (off + k) _ (ct_at (by omega))
      simpa [X.d, Nat.add_assoc] using this
    · exact (RM.run_fail he).elim
  case h_5 r ver m i off e =>
    rw [e] at hx
    obtain ⟨_, h1, h2, h3⟩ := hx
    obtain ⟨R, hR, he⟩ := RM.run_res he
    split at he
    · rename_i ety cts content ver' frz hk
      split at he
      · rename_i hc
        simp only [Bool.and_eq_true, beq_iff_eq] at hc
        obtain ⟨⟨⟨hc1, rfl⟩, hm⟩, hle⟩ := hc
        have hle := Nat.le_of_ble_eq_true hle
        have hon : R.on K := entails_sound _ _ hc1 hG
        have hok := h.res r R hR hon
        rw [hk] at hok
        obtain ⟨b, len, cap, hrv, hi0, hi1, hv⟩ := h3 hok.1
        obtain ⟨cur, e', fz, hg, hsz, hn, hr⟩ := row_cells hok hrv hi0 hi1
        obtain ⟨s', hs', rfl⟩ := RM.run_val he
        have hlt : (i.d K.Φ K.ρ).int.toNat < len := by omega
        have hb := mul_lt_bound (j := off + n) (m := cts.length) hlt hle
        subst hm
        refine load_core h ho hs ha hv hg (by omega) (relS_dataCells (F := gh.F) (by simp; omega) rfl fun k hk => ?_) hs'
        rw [getD_slice _ _ _ _ hk]
        have := hr _ (off + k) _ hlt (ct_at (by omega))
        simpa [X.d, Nat.add_assoc] using this
      · exact (RM.run_fail he).elim
    · exact (RM.run_fail he).elim
  case h_6 r base m i e =>
    rw [e] at hx
    obtain ⟨b, hβ, hi0, hi1, hv⟩ := hx
    obtain ⟨R, hR, he2⟩ := RM.run_res he
    clear he
    revert he2
    intro he
    split at he
    · rename_i ety cells frz hk
      split at he
      · rename_i ct e1 rest hcells
        split at he
        · rename_i xs hxs
          split at he
          · rename_i hc
            simp only [Bool.and_eq_true, beq_iff_eq, Bool.not_eq_eq_eq_not, Bool.not_true] at hc
            obtain ⟨⟨⟨hc1, rfl⟩, rfl⟩, hlen⟩ := hc
            have hon : R.on K := entails_sound _ _ hc1 hG
            have hok := h.res r R hR hon
            rw [hk] at hok
            obtain ⟨b', cur, hb', hg, hrel, _⟩ := hok
            obtain rfl : b' = b := Option.some.inj (hb'.symm.trans hβ)
            have he := RM.run_done he
            subst he
            have hrel2 := relS_take m (relS_drop base hrel)
            rw [hcells] at hrel2
            have key : ∀ (l : List SC) (vs : List Value) (ys : List X) (m j : Nat), relS K.Φ K.ρ w gh l vs → cellsData (List.replicate m ct) l = some ys → j < m → ∃ u, vs[j]? = some u ∧ Rep w gh.F ct u (((consX ys).ds K.Φ K.ρ).getD j default) := by
              intro l
              induction l with
              | nil =>
                intro vs ys m j _ hc hj
                cases m with
                | zero => omega
                | succ m => simp [List.replicate_succ, cellsData] at hc
              | cons c l ih =>
                intro vs ys m j hrr hc hj
                cases vs with
                | nil => exact hrr.elim
                | cons v vs =>
                  cases m with
                  | zero => omega
                  | succ m =>
                    rw [List.replicate_succ] at hc
                    unfold cellsData at hc
                    split at hc
                    · rename_i hh; cases hh
                    · rename_i ct' cts' ct2 e2 cs2 hh1 hh2
                      simp only [List.cons.injEq] at hh1 hh2
                      obtain ⟨rfl, rfl⟩ := hh1
                      obtain ⟨rfl, rfl⟩ := hh2
                      split at hc
                      · rename_i hct
                        have := CT.beq_eq _ _ hct
                        subst this
                        cases hcd : cellsData (List.replicate m ct2) l with
                        | none => simp [hcd] at hc
                        | some zs =>
                          simp only [hcd, Option.map_some, Option.some.injEq] at hc
                          subst hc
                          cases j with
                          | zero => exact ⟨v, rfl, by simp only [consX, X.ds, List.getD_cons_zero]; exact hrr.1⟩
                          | succ j =>
                            obtain ⟨u, hu, hru⟩ := ih vs zs m j hrr.2 hcd (by omega)
                            exact ⟨u, by simpa using hu, by simpa [consX, X.ds] using hru⟩
                      · cases hc
                    · rename_i e3 ct3 cts3 cs3 hh1 hh2
                      simp only [List.cons.injEq] at hh1 hh2
                      obtain ⟨rfl, rfl⟩ := hh1
                      obtain ⟨rfl, rfl⟩ := hh2
                      cases hcd : cellsData (List.replicate m (.sl e3 ct3)) l with
                      | none => simp [hcd] at hc
                      | some zs =>
                        simp only [hcd, Option.map_some, Option.some.injEq] at hc
                        subst hc
                        cases j with
                        | zero =>
                          obtain ⟨hv0, _⟩ := hrr.1
                          subst hv0
                          exact ⟨_, rfl, by simpa [consX, X.ds, X.d] using Rep.nil⟩
                        | succ j =>
                          obtain ⟨u, hu, hru⟩ := ih vs zs m j hrr.2 hcd (by omega)
                          exact ⟨u, by simpa using hu, by simpa [consX, X.ds] using hru⟩
                    · cases hc
            have hj : (i.d K.Φ K.ρ).int.toNat < m := by omega
            obtain ⟨u, hu, hru⟩ := key _ _ _ m _ hrel2 hxs hj
            rw [List.getElem?_take, if_pos hj, List.getElem?_drop] at hu
            refine EffOk.pure h (v := u) ?_ (by simpa [SV.rel, SC.rel, X.d] using hru)
            have hu' : cur[base + (i.d K.Φ K.ρ).int.toNat]? = some u := by simpa using hu
            have hlt2 : base + (i.d K.Φ K.ρ).int.toNat < cur.size := (Array.getElem?_eq_some_iff.1 hu').1
            have := run_loadVar_cells (P := P) hs ha hg (off := base + (i.d K.Φ K.ρ).int.toNat) (by omega) (fun _ => rfl)
            simp only [Bool.false_eq_true, if_false] at this
            simp only [execOp, ho, hv, Instr.loadAt, Instr.sureAddr, Sem.run_bind, Sem.run_pure, Result.andThen_ok, this]
            congr 2
            rw [List.take_one]
            simp [List.head?_drop, hu']
          · exact (RM.run_fail he).elim
        · exact (RM.run_fail he).elim
      · exact (RM.run_fail he).elim
    · exact (RM.run_fail he).elim
  case h_7 => exact (RM.run_fail he).elim

theorem addOff_rel {k : Nat} {s s' : SV} (h : addOff k s = some s') {v : Value} (hs : SV.rel K.Φ K.ρ w gh s v) :
    ∃ q, v = .pointer (some q) ∧ SV.rel K.Φ K.ρ w gh s' (.pointer (some (q.add k))) := by
  unfold addOff at h
  split at h <;> simp only [Option.some.injEq, reduceCtorEq] at h <;> subst h
  · obtain ⟨b, h1, rfl⟩ := hs
    exact ⟨_, rfl, b, h1, by rw [addr_add]⟩
  · obtain ⟨g, oo, len, cap, h1, h2, h3, rfl⟩ := hs
    exact ⟨_, rfl, g, oo, len, cap, h1, h2, h3, by rw [addr_add, Nat.add_assoc]⟩
  · obtain ⟨g, oo, cur, t', fz, hv, hF, hg, hc, hd, hn, hr⟩ := rep_pt hs
    subst hv
    exact ⟨_, rfl, g, oo, hs, by rw [addr_add]⟩
  · obtain ⟨g, oo, h1, rfl⟩ := hs
    exact ⟨_, rfl, g, oo, h1, by rw [addr_add, Nat.add_assoc]⟩
  · obtain ⟨⟨q, rfl⟩, h1, h2, h3⟩ := hs
    refine ⟨q, rfl, ⟨_, rfl⟩, h1, h2, fun e => ?_⟩
    obtain ⟨b, len, cap, hrv, hi0, hi1, hv⟩ := h3 e
    simp only [Value.pointer.injEq, Option.some.injEq] at hv
    subst hv
    exact ⟨b, len, cap, hrv, hi0, hi1, by rw [addr_add, Nat.add_assoc]⟩

theorem eff_fieldAddr (h : Inv K σ gh a w) {t : TypeId} {x : Operand} {f : Nat} (ho : o.op = .fieldAddr t x f) {G : X} (hG : (G.d K.Φ K.ρ).bool = true) {eo : EO}
    (he : (effFieldAddr P t (strip G (σ.opd x)) f).run σ.res = some eo) : EffOk K σ P o a w eo := by
  have hx := strip_rel hG (h.opd x)
  unfold effFieldAddr at he
  split at he
  · rename_i fs hu
    split at he
    · rename_i fd hf
      split at he
      · rename_i n hs
        obtain ⟨s, hs', rfl⟩ := RM.run_val he
        obtain ⟨q, hq, hrel⟩ := addOff_rel hs' hx
        refine EffOk.pure h ?_ hrel
        have := run_sizeT (P := P) hs w
        simp [execOp, ho, hq, Instr.fieldAt, run_underlying hu, hf, Instr.sureAddr, fieldPlace, this]
      · exact (RM.run_fail he).elim
    · exact (RM.run_fail he).elim
  · exact (RM.run_fail he).elim

theorem inRange_spec {i n : X} {pre : FuncId → List D → Prop} (h : ∀ nd ∈ inRange i n, nd.holds pre K.Φ K.ρ) : 0 ≤ (i.d K.Φ K.ρ).int ∧ (i.d K.Φ K.ρ).int < (n.d K.Φ K.ρ).int := by
  have h1 := h (.c (leX (.n 0) i)) (by simp [inRange])
  have h2 := h (.c (ltX i n)) (by simp [inRange])
  exact ⟨of_decide_eq_true (p := (0 : Int) ≤ (i.d K.Φ K.ρ).int) h1, of_decide_eq_true (p := (i.d K.Φ K.ρ).int < (n.d K.Φ K.ρ).int) h2⟩

theorem sizeEq_spec {t : TypeId} {n : Nat} (h : sizeEq P t n = true) : sizeT P t = some n := by
  unfold sizeEq at h
  split at h
  · rename_i m hm; rw [hm]; simpa using h
  · cases h

theorem eff_indexAddr (h : Inv K σ gh a w) {t : TypeId} {x i : Operand} (ho : o.op = .indexAddr t x i) {G : X} (hG : (G.d K.Φ K.ρ).bool = true) {eo : EO} {pre : FuncId → List D → Prop}
    (he : (effIndexAddr P G t (strip G (σ.opd x)) (strip G (σ.opd i))).run σ.res = some eo) (hn : ∀ n ∈ eo.nd, n.holds pre K.Φ K.ρ) : EffOk K σ P o a w eo := by
  have hx := strip_rel hG (h.opd x)
  have hi := strip_rel hG (h.opd i)
  unfold effIndexAddr at he
  split at he
  case h_2 => exact (RM.run_fail he).elim
  rename_i ki ie ei
  rw [ei] at hi
  obtain ⟨hiv, hid, hib⟩ := rep_int hi
  split at he
  · rename_i el hu
    split at he
    · rename_i e cts s ex
      rw [ex] at hx
      split at he
      · rename_i hsz
        have hsz := sizeEq_spec hsz
        have he := RM.run_done he
        subst he
        obtain ⟨h0, h1⟩ := inRange_spec hn
        have h1 : (ie.d K.Φ K.ρ).int < (s.d K.Φ K.ρ).lst.length := h1
        rcases rep_sl_any hx with ⟨_, hd⟩ | ⟨g, oo, len, cap, hv, hl, _⟩
        · rw [hd] at h1; simp at h1; omega
        · rw [hl] at h1
          have hx' := hx
          rw [hv] at hx'
          refine EffOk.pure h (v := .pointer (some ⟨g, oo + (ie.d K.Φ K.ρ).int.toNat * cts.length + 0, none⟩)) ?_ ⟨g, oo, len, cap, hx', h0, h1, rfl⟩
          have := run_sizeT (P := P) hsz w
          simp [execOp, ho, hv, hiv, Instr.indexAt, asIntOf, run_underlying hu, h0, h1, this, addr_add]
      · exact (RM.run_fail he).elim
    · rename_i r ver ex
      rw [ex] at hx
      obtain ⟨_, h1', h2', h3'⟩ := hx
      obtain ⟨R, hR, he2⟩ := RM.run_res he
      split at he2
      · rename_i ety cts content ver' frz hk
        split at he2
        · rename_i hc
          simp only [Bool.and_eq_true, beq_iff_eq] at hc
          obtain ⟨⟨hc1, rfl⟩, hsz⟩ := hc
          have hsz := sizeEq_spec hsz
          have he := RM.run_done he2
          subst he
          have hon : R.on K := entails_sound _ _ hc1 hG
          have hok := h.res r R hR hon
          rw [hk] at hok
          have hver := hok.1
          have hv := h3' hver
          obtain ⟨h0, h1⟩ := inRange_spec hn
          have h1 : (ie.d K.Φ K.ρ).int < (content.d K.Φ K.ρ).lst.length := h1
          have hrow : ∃ b len cap, gh.rv r = .slice (some ⟨b, 0, none⟩) len cap ∧ (content.d K.Φ K.ρ).lst.length = len := by
            obtain ⟨_, _, hz, hok⟩ := hok
            cases frz with
            | true =>
              simp only [if_true] at hok
              rcases rep_sl_any hok with ⟨_, hd⟩ | ⟨g, oo, len, cap, hrv, hl, hlc⟩
              · rw [hd] at h1; simp at h1; omega
              · have h1' : (ie.d K.Φ K.ρ).int < (len : Int) := by rw [← hl]; exact h1
                obtain ⟨b, hb⟩ := hz _ _ _ hrv (by omega)
                rw [hb] at hrv
                exact ⟨b, len, cap, hrv, hl⟩
            | false =>
              simp only [Bool.false_eq_true, if_false] at hok
              obtain ⟨xs, vals, hd, hown, _⟩ := hok
              rcases hown with ⟨_, h0', _⟩ | ⟨g, cap, cur, hrv, _⟩
              · rw [hd] at h1; simp [h0'] at h1; omega
              · exact ⟨g, _, cap, hrv, by rw [hd]; rfl⟩
          obtain ⟨b, len, cap, hrv, hlen⟩ := hrow
          rw [hlen] at h1
          refine EffOk.pure h (v := .pointer (some ⟨b, (ie.d K.Φ K.ρ).int.toNat * cts.length + 0, none⟩)) ?_ ⟨⟨_, rfl⟩, h1', h2', fun _ => ⟨b, len, cap, hrv, h0, h1, rfl⟩⟩
          have := run_sizeT (P := P) hsz w
          rw [hrv] at hv
          simp [execOp, ho, hv, hiv, Instr.indexAt, asIntOf, run_underlying hu, h0, h1, this, addr_add]
        · exact (RM.run_fail he2).elim
      · exact (RM.run_fail he2).elim
    · exact (RM.run_fail he).elim
  · rename_i n el hu
    split at he
    · rename_i m hm
      have hm' := run_sizeT (P := P) hm w
      split at he
      · rename_i r off ex
        rw [ex] at hx
        obtain ⟨b, hβ, hv⟩ := hx
        split at he
        · rename_i z
          split at he
          · rename_i hz
            simp only [decide_eq_true_eq] at hz
            have he := RM.run_done he
            subst he
            simp only [X.d, D.int_i] at hiv
            refine EffOk.pure h (v := .pointer (some ⟨b, off + z.toNat * (m + 1), none⟩)) ?_ ⟨b, hβ, rfl⟩
            simp [execOp, ho, hv, hiv, Instr.indexAt, Instr.sureAddr, asIntOf, run_underlying hu, hz.1, hz.2, hm', addr_add]
          · exact (RM.run_fail he).elim
        · split at he
          · rename_i hm0
            simp only [beq_iff_eq] at hm0
            subst hm0
            have he := RM.run_done he
            subst he
            obtain ⟨h0, h1⟩ := inRange_spec hn
            have h1 : (ie.d K.Φ K.ρ).int < n := h1
            refine EffOk.pure h (v := .pointer (some ⟨b, off + (ie.d K.Φ K.ρ).int.toNat, none⟩)) ?_ ⟨b, hβ, h0, h1, rfl⟩
            simp [execOp, ho, hv, hiv, Instr.indexAt, Instr.sureAddr, asIntOf, run_underlying hu, h0, h1, hm', addr_add]
          · exact (RM.run_fail he).elim
      · rename_i e cts s k off ex
        rw [ex] at hx
        obtain ⟨g, oo, len, cap, hRep, hk0, hk1, hv⟩ := hx
        split at he
        · rename_i z
          split at he
          · rename_i hz
            simp only [decide_eq_true_eq] at hz
            have he := RM.run_done he
            subst he
            simp only [X.d, D.int_i] at hiv
            refine EffOk.pure h (v := .pointer (some ⟨g, oo + (k.d K.Φ K.ρ).int.toNat * cts.length + (off + z.toNat * (m + 1)), none⟩)) ?_ ⟨g, oo, len, cap, hRep, hk0, hk1, rfl⟩
            simp [execOp, ho, hv, hiv, Instr.indexAt, Instr.sureAddr, asIntOf, run_underlying hu, hz.1, hz.2, hm', addr_add, Nat.add_assoc]
          · exact (RM.run_fail he).elim
        · exact (RM.run_fail he).elim
      · exact (RM.run_fail he).elim
    · exact (RM.run_fail he).elim
  · exact (RM.run_fail he).elim

theorem eff_index (h : Inv K σ gh a w) {t : TypeId} {x i : Operand} (ho : o.op = .index t x i) {G : X} (hG : (G.d K.Φ K.ρ).bool = true) {eo : EO} {pre : FuncId → List D → Prop}
    (he : (effIndex P t (strip G (σ.opd x)) (strip G (σ.opd i))).run σ.res = some eo) (hn : ∀ n ∈ eo.nd, n.holds pre K.Φ K.ρ) : EffOk K σ P o a w eo := by
  have hx := strip_rel hG (h.opd x)
  have hi := strip_rel hG (h.opd i)
  unfold effIndex at he
  split at he
  case h_2 => exact (RM.run_fail he).elim
  rename_i ki ie ei
  rw [ei] at hi
  obtain ⟨hiv, hid, hib⟩ := rep_int hi
  split at he
  · rename_i e hu ex
    rw [ex] at hx
    obtain ⟨hv, _, hsz⟩ := rep_str hx
    have he := RM.run_done he
    subst he
    obtain ⟨h0, h1⟩ := inRange_spec hn
    have h1 : (ie.d K.Φ K.ρ).int < (e.d K.Φ K.ρ).str.size := h1
    have hlt : (ie.d K.Φ K.ρ).int.toNat < (e.d K.Φ K.ρ).str.size := by omega
    refine EffOk.pure h (v := .int .u8 ((e.d K.Φ K.ρ).str[(ie.d K.Φ K.ρ).int.toNat]).toNat) ?_ (rep_mk_int ?_ ?_)
    · simp [execOp, ho, hv, hiv, Instr.index, asIntOf, run_underlying hu, h0, hlt]
    · simp [hlt]
    · have := ((e.d K.Φ K.ρ).str[(ie.d K.Φ K.ρ).int.toNat]).toNat_lt
      simp [IntKind.min, IntKind.max, IntKind.signed, IntKind.bits]
      omega
  · rename_i n el cs hu ex
    rw [ex] at hx
    obtain ⟨us, hv, hr⟩ := hx
    split at he
    · rename_i z m ag hm hag
      split at he
      · rename_i hc
        simp only [Bool.and_eq_true, decide_eq_true_eq] at hc
        obtain ⟨hz, hle⟩ := hc
        have hle := Nat.le_of_ble_eq_true hle
        obtain ⟨s, hs', rfl⟩ := RM.run_val he
        have hlen := relS_length hr
        have hrr := relS_take m (relS_drop (z.toNat * m) hr)
        have h1 : ag = false → m = 1 := by
          rintro rfl
          have e1 := mkVal_one hs'
          rw [List.length_take, List.length_drop] at e1
          omega
        simp only [X.d, D.int_i] at hiv
        have hp := run_part (P := P) hm hag us (z.toNat * m) (by simp at hlen; omega) h1 w
        have hsz := run_sizeT (P := P) hm w
        refine EffOk.pure h ?_ (rel_mkVal hs' hrr)
        simp [execOp, ho, hv, hiv, Instr.index, asIntOf, run_underlying hu, hz.1, hz.2, hsz, hp]
      · exact (RM.run_fail he).elim
    · exact (RM.run_fail he).elim
  · exact (RM.run_fail he).elim

end
end Go.RV
