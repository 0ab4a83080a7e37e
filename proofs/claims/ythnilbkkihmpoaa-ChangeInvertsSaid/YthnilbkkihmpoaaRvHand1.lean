/-
  RV, part 21: what the walks of library functions by hand need: their contracts from what they do to memory.
-/
import Derived.Test.YthnilbkkihmpoaaRvPlain
import Derived.WalkSpells
import Derived.WalkLawsBesides
import Derived.Deep.LoopGhost
import Derived.Deep.RegionLaw
import Derived.Lib.Walk
import Derived.Lib.SliceRun
import Derived.Shelf.RegionOpenPlain
namespace Go.RV
open Go.RowKit

/-- what a table says of a type: its cells, and that it is not too large -/
def infoOk (P : Program) (e : TypeId) (k : Nat) : Bool := match P.info? e with
  | some i => match i.zero with
    | some z => i.size == k && z.cells.size == k && decide (i.bytes ≤ 1000) && decide (0 < k)
    | none => false
  | none => false
theorem infoOk_spec {P : Program} {e : TypeId} {k : Nat} (h : infoOk P e k = true) : ∃ i z, P.info? e = some i ∧ i.zero = some z ∧ i.size = k ∧ z.cells.size = k ∧ i.bytes ≤ 1000 ∧ 0 < k := by
  unfold infoOk at h
  split at h
  · rename_i i hi
    split at h
    · rename_i z hz
      simp only [Bool.and_eq_true, beq_iff_eq, decide_eq_true_eq] at h
      exact ⟨i, z, hi, hz, h.1.1.1, h.1.1.2, h.1.2, h.2⟩
    · cases h
  · cases h

theorem RowRep.cast {w w' : World} {F F' : Nat → Prop} {cts : List CT} {xs : List (List D)} {vals : List Value} (h : RowRep w F cts xs vals) (hF : ∀ b, F b → F' b) (hw : ∀ b, F b → w'.heap[b]? = w.heap[b]?) : RowRep w' F' cts xs vals :=
  h.mono hF hw


/-- the closed forms of slices.Clone and slices.Delete, and what they want -/
def cloneD (ds : List D) : List D := ds
def clonePre (ds : List D) : Prop := ∃ xs, ds = [.l xs] ∧ xs.length ≤ 1000000
def delD : List D → List D
  | [.l xs, .i i, .i j] => [.l (xs.take i.toNat ++ xs.drop j.toNat)]
  | _ => []
def delPre (ds : List D) : Prop := ∃ (xs : List (List D)) (i j : Nat), ds = [.l xs, .i i, .i j] ∧ i < j ∧ j ≤ xs.length

/-- a copy of a slice: what the walk shows, and what follows -/
theorem clone_meets {P : Program} {f : FuncId} {e : TypeId} {cts : List CT} {S : Sig} (hps : S.ps = [(false, [.sl e cts])]) (hrs : S.rs = [(false, [.osl e cts])]) (hc : 0 < cts.length)
    (hen : ∀ (args : Array Value) (w : World), (callFunc f args).run P w = .ok (.enter f args) w)
    (hnil : ∀ w, Calls P f #[.slice none 0 0] w fun e w' => e = .returned (.slice none 0 0) ∧ w' = w)
    (hsome : ∀ (w : World) (q : Addr) (n c : Nat) (news : List Value), news.length = n * cts.length → (∀ j u, news[j]? = some u → w.cell? (q.add j) = some u) → (∀ u ∈ news, u.oneCell' = true) → n ≤ 1000000 →
      Calls P f #[.slice (some q) n c] w fun e' w' => ∃ v', e' = .returned v' ∧ w'.ownsRow w.heap.size e cts.length v' n news ∧ Below w.heap.size w w') (hlt : f < 20000 := by decide) :
    Meets P f S clonePre cloneD := by
  refine MeetsFn.meets ⟨hen, fun w F vs ds hF hA hp => ?_⟩ hlt
  obtain ⟨xs, rfl, hxs⟩ := hp
  rw [hps] at hA
  match vs, hA with
  | [v], hA =>
    obtain ⟨d1, d2, he, ⟨us, h1, h2⟩, h3⟩ := hA
    have h3 : d2 = [] := h3
    subst h3
    rw [List.append_nil] at he
    subst he
    have h1 : us = [v] := h1
    subst h1
    have hrep : Rep w F (.sl e cts) v (.l xs) := h2.1
    have hres : ∀ (w' : World) (v' : Value), OwnD w' F e cts v' (.l xs) → ResRepO w' F S.rs v' [.l xs] [v'] := fun w' v' ho => by
      rw [hrs]
      exact ⟨[v'], rfl, rfl, ho, trivial⟩
    have hFlt : ∀ w' : World, Below w.heap.size w w' → ∀ b, F b → (F b ∨ w.heap.size ≤ b) ∧ b < w'.heap.size := fun w' hb b hFb => ⟨.inl hFb, Nat.lt_of_lt_of_le (hF b hFb) hb.size⟩
    rcases rep_src hrep hc with ⟨rfl, hx⟩ | ⟨q, n, c, news, ys, rfl, hx, hn, hl, hcells, h1c, hrow⟩
    · simp only [D.l.injEq] at hx
      subst hx
      refine (hnil w).mono fun e' w' ⟨he, hw⟩ => ?_
      subst hw
      refine ⟨_, F, [.slice none 0 0], he, hres w' _ ⟨[], [], rfl, .inl ⟨rfl, rfl, _, rfl⟩, fun i hi => by simp at hi⟩, ⟨?_, by simp⟩, fun _ h => h, hFlt w' (Below.refl _ w'), Below.refl _ w'⟩
      intro u hu b hb
      simp only [List.mem_singleton] at hu
      subst hu
      cases hb
    · simp only [D.l.injEq] at hx
      subst hx
      refine (hsome w q n c news hl hcells h1c (by omega)).mono fun e' w' ⟨v', he, hown, hbel⟩ => ?_
      have hownR := OwnR.of hown
      rw [← hn] at hownR
      refine ⟨v', F, [v'], he, hres w' v' ⟨xs, news, rfl, hownR, hrow.mono (fun _ h => h) fun b hb => hbel.block b (hF b hb)⟩, ⟨?_, by simp⟩, fun _ h => h, hFlt w' hbel, hbel⟩
      intro u hu b hb
      simp only [List.mem_singleton] at hu
      subst hu
      rcases hown.2 with ⟨h1, _⟩ | ⟨g, cap, cur, h1, h2, h3, _⟩
      · rw [h1] at hb; cases hb
      · subst h1
        have hb' := ownB_own hb
        simp only [Value.ownBlock, Option.some.injEq] at hb'
        subst hb'
        refine ⟨h2, (Array.getElem?_eq_some_iff.1 h3).1, fun hFb => ?_⟩
        have := hF _ hFb
        omega
/-! ### cells that are set in a block -/
theorem setCells_heap : ∀ (vs : List Value) (o : Nat) (w : World) (b : Nat) (cur : Array Value) (e : TypeId) (fr : Nat × Nat), w.heap[b]? = some (.cells cur e fr) → o + vs.length ≤ cur.size →
    ∃ cur', (w.setCells b o vs).heap[b]? = some (.cells cur' e fr) ∧ cur'.size = cur.size ∧ ∀ j, cur'[j]? = if o ≤ j ∧ j < o + vs.length then vs[j - o]? else cur[j]?
  | [], o, w, b, cur, e, fr, hg, _ => ⟨cur, hg, rfl, fun j => by rw [if_neg (by simp only [List.length_nil]; omega)]⟩
  | v :: vs, o, w, b, cur, e, fr, hg, hs => by
    simp only [List.length_cons] at hs
    obtain ⟨cur', h1, h2, h3⟩ := setCells_heap vs (o + 1) (w.setCell ⟨b, o, none⟩ v) b (cur.setIfInBounds o v) e fr (by rw [setCell_eq_setRow w b o cur e fr v hg]; exact setRow_heap w b cur _ e fr hg) (by simp; omega)
    refine ⟨cur', h1, by rw [h2]; simp, fun j => ?_⟩
    rw [h3 j]
    by_cases hj : o + 1 ≤ j ∧ j < o + 1 + vs.length
    · rw [if_pos hj, if_pos (by simp only [List.length_cons]; omega)]
      obtain ⟨k, hk⟩ : ∃ k, j - o = k + 1 := ⟨j - o - 1, by omega⟩
      rw [hk, List.getElem?_cons_succ, show j - (o + 1) = k by omega]
    · rw [if_neg hj, Array.getElem?_setIfInBounds]
      by_cases he : o = j
      · subst he
        rw [if_pos rfl, if_pos (by omega), if_pos (by simp), Nat.sub_self, List.getElem?_cons_zero]
      · rw [if_neg he, if_neg (by simp only [List.length_cons]; omega)]
theorem setCells_other (vs : List Value) (o : Nat) (w : World) (b k : Nat) (h : k ≠ b) : (w.setCells b o vs).heap[k]? = w.heap[k]? := by
  induction vs generalizing o w with
  | nil => rfl
  | cons v vs ih =>
    rw [World.setCells, ih]
    simp [World.setCell, Array.getElem?_modify, Ne.symm h]
theorem setCells_os (vs : List Value) (o : Nat) (w : World) (b : Nat) : (w.setCells b o vs).os = w.os ∧ (w.setCells b o vs).output = w.output ∧ (w.setCells b o vs).tape = w.tape ∧ (w.setCells b o vs).heap.size = w.heap.size := by
  induction vs generalizing o w with
  | nil => exact ⟨rfl, rfl, rfl, rfl⟩
  | cons v vs ih =>
    obtain ⟨h1, h2, h3, h4⟩ := ih (o + 1) (w.setCell ⟨b, o, none⟩ v)
    refine ⟨h1.trans rfl, h2.trans rfl, h3.trans rfl, h4.trans ?_⟩
    simp [World.setCell]
theorem setCells_grown (vs : List Value) (o : Nat) (w : World) (b : Nat) : w.grownBy (w.setCells b o vs) (some b) := by
  obtain ⟨h1, h2, h3, h4⟩ := setCells_os vs o w b
  exact ⟨h1, h3, h2, by rw [h4]; exact Nat.le_refl _, fun k hk hne => setCells_other vs o w b k (fun e => hne (by rw [e]))⟩

/-- 'clear(s)', whatever the elements' size -/
theorem run_clear {P : Program} (w : World) (t e ty : TypeId) (z : Value) (ht : P.underlying t = some (.slice e)) (hv : (zeroValue e).run P w = .ok z w) (h1 : ∀ u ∈ z.cells.toList, u.oneCell' = true) (hzs : 0 < z.cells.size) (b o n c : Nat) (hn : 0 < n)
    (hc : ∀ j, j < n * z.cells.size → (w.cell? ⟨b, o + j, none⟩).isSome = true) (hf : ∀ j, j < n * z.cells.size → w.frozen? ⟨b, o + j, none⟩ = false) :
    (Builtin.clear_ #[t] ty #[.slice (some ⟨b, o, none⟩) n c]).run P w = .ok (.tuple #[]) (w.setCells b o (Builtin.zeroCells z.cells n).toList) := by
  have hlen : (Builtin.zeroCells z.cells n).toList.length = n * z.cells.size := by simp [Builtin.zeroCells]
  have hst := run_storeCells_cells (P := P) b o (Builtin.zeroCells z.cells n).toList 0 w (by rw [hlen]; simpa using hc) (by rw [hlen]; simpa using hf) (by
    intro v hv'
    simp only [Builtin.zeroCells, Array.toList_map, Array.toList_range, List.mem_map, List.mem_range] at hv'
    obtain ⟨k, hk, rfl⟩ := hv'
    have hlt : k % z.cells.size < z.cells.size := Nat.mod_lt _ hzs
    refine h1 _ ?_
    rw [getElem!_pos z.cells _ hlt]
    simp)
  simp only [Nat.add_zero] at hst
  obtain ⟨m, rfl⟩ : ∃ m, n = m + 1 := ⟨n - 1, by omega⟩
  simp [Builtin.clear_, run_underlying ht, hv, hst]

/-- slices.Delete: what the walk shows, and what follows -/
theorem delete_meets {P : Program} {f : FuncId} {e : TypeId} {cts : List CT} {S : Sig} (hrs : S.rs.isEmpty = false) (hc : 0 < cts.length)
    (hen : ∀ (args : Array Value) (w : World), (callFunc f args).run P w = .ok (.enter f args) w)
    (hw : ∀ (w : World) (g n cap i j : Nat) (cur : Array Value), w.heap[g]? = some (.cells cur e (0, 0)) → n ≤ cap → cap ≤ maxLen → cur.size = cap * cts.length → i < j → j ≤ n → (∀ u ∈ (cur.toList.drop (j * cts.length)).take ((n - j) * cts.length), u.oneCell' = true) →
      Calls P f #[.slice (some ⟨g, 0, none⟩) n cap, .int .i64 i, .int .i64 j] w fun e' w' => ∃ zs : List Value, zs.length = (j - i) * cts.length ∧ e' = .returned (.slice (some ⟨g, 0, none⟩) (i + (n - j)) cap) ∧
        w' = (w.drew.setCells g (0 + i * cts.length) ((cur.toList.drop (j * cts.length)).take ((n - j) * cts.length))).setCells g (0 + (i + (n - j)) * cts.length) zs) :
    MeetsRow P f S (e, cts, [(false, [.int .i64]), (false, [.int .i64])]) delPre delD := by
  refine ⟨hen, fun w F v vs xs vals ds hF hown hrow hown2 hA hp => ?_⟩
  obtain ⟨xs', i, j, he, hij, hjn⟩ := hp
  simp only [List.cons.injEq, D.l.injEq] at he
  obtain ⟨rfl, rfl⟩ := he
  simp only at hown hrow
  match vs, hA with
  | [v1, v2], hA =>
    obtain ⟨d1, d2, he, ⟨us, k1, k2⟩, d3, d4, he2, ⟨us', k3, k4⟩, k5⟩ := hA
    have k1 : us = [v1] := k1
    have k3 : us' = [v2] := k3
    subst k1 k3
    have k5 : d4 = [] := k5
    subst k5
    rw [List.append_nil] at he2
    subst he2
    cases d1 with
    | nil => exact k2.elim
    | cons x1 d1 =>
      cases d1 with
      | cons _ _ => exact k2.2.elim
      | nil =>
        simp only [List.cons_append, List.nil_append, List.cons.injEq] at he
        obtain ⟨he1, he2⟩ := he
        subst he1
        subst he2
        have r1 : v1 = .int .i64 i := (rep_int k2.1).1
        have r2 : v2 = .int .i64 j := (rep_int k4.1).1
        subst r1 r2
        rcases hown with ⟨h1, h2, _⟩ | ⟨g, cap, cur, rfl, h0, hl, hg, hnc, hcm, hcs, htk⟩
        · omega
        have hpos : ∀ k, k ≤ xs.length → k * cts.length ≤ xs.length * cts.length := fun k hk => Nat.mul_le_mul_right _ hk
        have hszl : xs.length * cts.length ≤ cur.size := by rw [hcs]; exact Nat.mul_le_mul_right _ hnc
        have hvals : ∀ k, k < xs.length * cts.length → vals[k]? = cur[k]? := fun k hk => by
          rw [← htk, List.getElem?_take, if_pos hk, Array.getElem?_toList]
        have hnews : (cur.toList.drop (j * cts.length)).take ((xs.length - j) * cts.length) = vals.drop (j * cts.length) := by
          apply List.ext_getElem?
          intro k
          rw [List.getElem?_take, List.getElem?_drop, List.getElem?_drop]
          have hjj := hpos j hjn
          have hsub : (xs.length - j) * cts.length = xs.length * cts.length - j * cts.length := Nat.sub_mul _ _ _
          by_cases hk : k < (xs.length - j) * cts.length
          · rw [if_pos hk, hvals _ (by omega), Array.getElem?_toList]
          · rw [if_neg hk, List.getElem?_eq_none (by omega)]
        have h1c := rowRep_oneCell hrow hl hc
        have hcall := hw w g xs.length cap i j cur hg hnc hcm hcs hij hjn (by
          rw [hnews]
          intro u hu
          exact h1c u (List.mem_of_mem_drop hu))
        rw [hnews] at hcall
        refine hcall.mono fun e' w' ⟨zs, hzs, he', hw'⟩ => ?_
        have hgd : w.drew.heap[g]? = some (.cells cur e (0, 0)) := hg
        have hjj := hpos j hjn
        have hii := hpos i (by omega)
        have hsub : (xs.length - j) * cts.length = xs.length * cts.length - j * cts.length := Nat.sub_mul _ _ _
        have hsub2 : (j - i) * cts.length = j * cts.length - i * cts.length := Nat.sub_mul _ _ _
        have hij2 : i * cts.length ≤ j * cts.length := Nat.mul_le_mul_right _ (by omega)
        have hadd : (i + (xs.length - j)) * cts.length = i * cts.length + (xs.length * cts.length - j * cts.length) := by rw [Nat.add_mul, hsub]
        have hdl : (vals.drop (j * cts.length)).length = xs.length * cts.length - j * cts.length := by rw [List.length_drop, hl]
        obtain ⟨c1, p1, p2, p3⟩ := setCells_heap (vals.drop (j * cts.length)) (0 + i * cts.length) w.drew g cur e (0, 0) hgd (by rw [hdl]; omega)
        obtain ⟨c2, q1, q2, q3⟩ := setCells_heap zs (0 + (i + (xs.length - j)) * cts.length) _ g c1 e (0, 0) p1 (by rw [hzs, hadd, p2]; omega)
        rw [← hw'] at q1
        have hlen' : (xs.take i ++ xs.drop j).length = i + (xs.length - j) := by simp; omega
        refine ⟨.slice (some ⟨g, 0, none⟩) (i + (xs.length - j)) cap, xs.take i ++ xs.drop j, vals.take (i * cts.length) ++ vals.drop (j * cts.length), by simp only [delD, Int.toNat_natCast], ?_, ?_, ?_, fun b hb => .inl (by
          obtain ⟨c9, rfl⟩ : ∃ c, cap = c + 1 := ⟨cap - 1, by omega⟩
          exact hb), ?_⟩
        · rw [hlen']
          refine .inr ⟨g, cap, c2, rfl, h0, ?_, q1, by omega, hcm, by rw [q2, p2, hcs], ?_⟩
          · simp only [List.length_append, List.length_take, List.length_drop, hl, hadd]
            omega
          · apply List.ext_getElem?
            intro k
            rw [List.getElem?_take]
            by_cases hk : k < (i + (xs.length - j)) * cts.length
            · rw [if_pos hk, Array.getElem?_toList, q3 k, if_neg (by omega), p3 k]
              by_cases hki : k < i * cts.length
              · rw [if_neg (by omega), List.getElem?_append_left (by simp only [List.length_take, hl]; omega), List.getElem?_take, if_pos hki, hvals k (by omega)]
              · rw [if_pos (by rw [hdl]; omega), List.getElem?_append_right (by simp only [List.length_take, hl]; omega), List.length_take, hl, show min (i * cts.length) (xs.length * cts.length) = i * cts.length by omega, Nat.zero_add]
            · rw [if_neg hk, List.getElem?_eq_none]
              simp only [List.length_append, List.length_take, List.length_drop, hl]
              omega
        · refine rowRep_append (fun k hk => ?_) (by simp only [List.length_take, hl, Nat.min_def]; split <;> split <;> omega) (fun k hk => ?_)
          · simp only [List.length_take] at hk
            have hki : k < i := by omega
            obtain ⟨e1, e2⟩ := hrow k (by omega)
            have g1 : (xs.take i).getD k [] = xs.getD k [] := by simp only [List.getD]; rw [List.getElem?_take, if_pos hki]
            rw [g1]
            refine ⟨e1, fun m ct hm => ?_⟩
            have hml : m < cts.length := (List.getElem?_eq_some_iff.1 hm).1
            have hb := mul_lt_bound (j := m + 1) (m := cts.length) hki (by omega)
            have g2 : (vals.take (i * cts.length)).getD (k * cts.length + m) undef = vals.getD (k * cts.length + m) undef := by simp only [List.getD]; rw [List.getElem?_take, if_pos (by omega)]
            rw [g2]
            exact e2 m ct hm
          · simp only [List.length_drop] at hk
            obtain ⟨e1, e2⟩ := hrow (j + k) (by omega)
            have g1 : (xs.drop j).getD k [] = xs.getD (j + k) [] := by simp only [List.getD]; rw [List.getElem?_drop]
            rw [g1]
            refine ⟨e1, fun m ct hm => ?_⟩
            have g2 : (vals.drop (j * cts.length)).getD (k * cts.length + m) undef = vals.getD ((j + k) * cts.length + m) undef := by
              simp only [List.getD]
              rw [List.getElem?_drop]
              congr 2
              rw [Nat.add_mul]
              omega
            rw [g2]
            exact e2 m ct hm
        · rw [hw']
          have a1 : w.grownBy w.drew (some g) := ⟨rfl, rfl, rfl, Nat.le_refl _, fun _ _ _ => rfl⟩
          have a2 := setCells_grown (vals.drop (j * cts.length)) (0 + i * cts.length) w.drew g
          have a3 := setCells_grown zs (0 + (i + (xs.length - j)) * cts.length) (w.drew.setCells g (0 + i * cts.length) (vals.drop (j * cts.length))) g
          obtain ⟨c9, rfl⟩ : ∃ c, cap = c + 1 := ⟨cap - 1, by omega⟩
          show w.grownBy _ (some g)
          exact ⟨a3.os.trans (a2.os.trans a1.os), a3.tape.trans (a2.tape.trans a1.tape), a3.output.trans (a2.output.trans a1.output), Nat.le_trans a1.size (Nat.le_trans a2.size a3.size),
            fun k hk hne => by rw [a3.block k (Nat.lt_of_lt_of_le hk (Nat.le_trans a1.size a2.size)) hne, a2.block k (Nat.lt_of_lt_of_le hk a1.size) hne]; rfl⟩
        · rw [hrs]
          exact he'
/-- the cells of the row that a function changes -/
def ctsRow (S : Sig) : List CT := match S.ps with
  | (_, [.osl _ cts]) :: _ => cts
  | _ => []
theorem enter_of {P : Program} {f : FuncId} {fn : Func} {c : Code} (hf : P.funcs[f]? = some fn) (hb : fn.body = some c) (hname : (fn.name == "runtime.NumGoroutine") = false) (args : Array Value) (w : World) : (callFunc f args).run P w = .ok (.enter f args) w := by
  have h1 : fn.name ≠ "runtime.NumGoroutine" := by simpa using hname
  simp [callFunc, hf, h1, hb]

end Go.RV
