/-
  RV, part 11c: calls of functions that write what their caller's pointers lead to.; RV, part 12: all operations in one; what an operation that isn't wanted leaves; of what an operation's effect depends.; RV, part 13: regions: one operation under its guard; in the text's order; in any order.
-/
import Derived.Test.YthpppbfiiphgoaaZSceneLayersD
namespace Go.RV
open Go.RowKit
def frameOf (n : Nat) (vs : List Value) : Act := { tmps := vs.toArray ++ Array.replicate (n - vs.toArray.size) undef, defers := [] }
def noAct : Act := { tmps := #[], defers := [] }
def ProcMeets (P : Program) (f : FuncId) (S : Sig) (L : LoopSig) (m : Nat) (pre : List D → Prop) (fn : List D → List D) : Prop :=
  (∀ (args : Array Value) (w : World), (callFunc f args).run P w = .ok (.enter f args) w) ∧
  ∀ (K : Ctx) (gh : Gh) (vs : List Value) (w : World), K.wok = (fun n => L.ws.contains n) → K.ρ.length = L.nv → pre K.ρ → vs.length = S.ps.length → Inv K L.head gh (frameOf L.head.slots.length vs) w →
    Calls P f vs.toArray w fun e w' => ∃ v vals outs gh' F', fn K.ρ = .i 0 :: (vals ++ outs) ∧ vals.length = L.wv.length ∧ e = .returned v ∧ ResRep w' F' S.rs v outs ∧
      Inv { K with ρ := setVars (K.ρ.take m) L.wv vals, gh0 := gh', a0 := noAct } ⟨[], L.head.res⟩ gh' noAct w' ∧ LoopLe L K.Pr gh gh'
def MeetsAt (P : Program) (f : FuncId) (S : Sig) (pre : FuncId → List D → Prop) (Φ : FuncId → List D → List D) : Prop :=
  S.w.isSome = true ∨ (S.pc.isEmpty = true ∧ MeetsP P f S (pre f) (Φ f)) ∨ (S.pc.isEmpty = false ∧ f < 20000 ∧ ∀ p ∈ S.pc, ProcMeets P f S p.1 p.2 (pre p.1.key) (Φ p.1.key))
section
variable {P : Program} {K : Ctx} {σ : St} {gh : Gh} {a : Act} {w : World} {o : Oper}
theorem MeetsAt.plain {f : FuncId} {S : Sig} {pre : FuncId → List D → Prop} {Φ : FuncId → List D → List D} (h : MeetsAt P f S pre Φ) (hw : ¬ S.w.isSome = true) (hp : S.pc.isEmpty = true) : MeetsP P f S (pre f) (Φ f) := by
  rcases h with h | h | h
  · exact absurd h hw
  · exact h.2
  · rw [hp] at h; exact absurd h.1 (by simp)
theorem MeetsAt.proc {f : FuncId} {S : Sig} {pre : FuncId → List D → Prop} {Φ : FuncId → List D → List D} (h : MeetsAt P f S pre Φ) (hw : ¬ S.w.isSome = true) (hp : ¬ S.pc.isEmpty = true) : f < 20000 ∧ ∀ p ∈ S.pc, ProcMeets P f S p.1 p.2 (pre p.1.key) (Φ p.1.key) := by
  rcases h with h | h | h
  · exact absurd h hw
  · exact absurd h.1 hp
  · exact h.2
theorem Inv.frame (h : Inv K σ gh a w) {sl : List SV} {a' : Act} (hd : a'.defers = []) (hsz : a'.tmps.size = sl.length) (hs : ∀ (n : Nat) s, sl[n]? = some s → SV.rel K.Φ K.ρ w gh s (a'.tmps.getD n undef)) {wok : Nat → Bool} {a0 : Act}
    (hk : ∀ n, wok n = false → a'.tmps.getD n undef = a0.tmps.getD n undef) : Inv { K with wok := wok, a0 := a0 } ⟨sl, σ.res⟩ gh a' w :=
  ⟨hd, hsz, hs, hk, h.os, h.tape, h.output, h.grow, h.pr, h.prlt, h.Flt, h.beta, h.vr0, h.res, h.own, h.inj, h.le0, h.Fpr⟩
theorem readAll_run : ∀ {rs : List Nat} {k : List (Nat × Res) → RM} {eo : EO}, (readAll rs k).run σ.res = some eo → ∃ l, (k l).run σ.res = some eo ∧ l.map (·.1) = rs ∧ ∀ p ∈ l, σ.has p.1 p.2
  | [], k, eo, h => ⟨[], h, rfl, by simp⟩
  | r :: rs, k, eo, h => by
    unfold readAll at h
    obtain ⟨R, hR, h⟩ := RM.run_res h
    obtain ⟨l, h1, h2, h3⟩ := readAll_run h
    exact ⟨(r, R) :: l, h1, by simp [h2], fun p hp => by cases hp with | head => exact hR | tail _ hp => exact h3 p hp⟩
theorem resAt_get {l : List (Nat × Res)} {hs : List (Option Res)} (hl : l.map (·.1) = listedOf hs) (h : ∀ p ∈ l, σ.has p.1 p.2) {r : Nat} (hr : listed hs r = true) : (resAt l hs.length).getD r none = σ.res.getD r none := by
  obtain ⟨x, hx, _⟩ := listed_get hr
  have hlt : r < hs.length := (List.getElem?_eq_some_iff.1 hx).1
  have hmem : r ∈ l.map (·.1) := by rw [hl]; simp [listedOf, hlt, hr]
  obtain ⟨p, hp, rfl⟩ := List.mem_map.1 hmem
  have hf : ∃ q, l.find? (·.1 == p.1) = some q := by
    cases hq : l.find? (·.1 == p.1) with
    | some q => exact ⟨q, rfl⟩
    | none => have := List.find?_eq_none.1 hq p hp; simp at this
  obtain ⟨q, hq⟩ := hf
  have hq1 : q.1 = p.1 := by have := List.find?_some hq; simpa using this
  have hq2 : σ.has q.1 q.2 := h q (List.mem_of_find?_eq_some hq)
  unfold St.has at hq2
  rw [hq1] at hq2
  simp only [resAt, List.getD, List.getElem?_map, List.getElem?_range hlt, Option.map_some, Option.getD_some, hq, hq2]
theorem matchSC_congr {hs rs rs' : List (Option Res)} (h : ∀ r, listed hs r = true → rs.getD r none = rs'.getD r none) (s t : SC) : matchSC hs rs s t = matchSC hs rs' s t := by
  unfold matchSC
  split <;> try rfl
  · rename_i r one r' ver
    by_cases hl : listed hs r = true
    · rw [h r hl]
    · simp [hl]
  · rename_i r one m i off r' ver m' e off'
    by_cases hl : listed hs r = true
    · rw [h r hl]
    · simp [hl]
theorem matchSCs_congr {hs rs rs' : List (Option Res)} (h : ∀ r, listed hs r = true → rs.getD r none = rs'.getD r none) : ∀ (s t : List SC), matchSCs hs rs s t = matchSCs hs rs' s t
  | [], [] => rfl
  | [], _ :: _ => rfl
  | _ :: _, [] => rfl
  | a :: as, b :: bs => by simp only [matchSCs, matchSC_congr h a b, matchSCs_congr h as bs]
theorem matchSV_congr {hs rs rs' : List (Option Res)} (h : ∀ r, listed hs r = true → rs.getD r none = rs'.getD r none) (s t : SV) : matchSV hs rs s t = matchSV hs rs' s t := by
  unfold matchSV
  split <;> first | rfl | exact matchSC_congr h _ _ | exact matchSCs_congr h _ _
theorem matchSVs_congr {hs rs rs' : List (Option Res)} (h : ∀ r, listed hs r = true → rs.getD r none = rs'.getD r none) : ∀ (s t : List SV), matchSVs hs rs s t = matchSVs hs rs' s t
  | [], [] => rfl
  | [], _ :: _ => rfl
  | _ :: _, [] => rfl
  | a :: as, b :: bs => by simp only [matchSVs, matchSV_congr h a b, matchSVs_congr h as bs]
theorem matchRK_congr {hs rs rs' : List (Option Res)} (h : ∀ r, listed hs r = true → rs.getD r none = rs'.getD r none) (s t : RK) : matchRK hs rs s t = matchRK hs rs' s t := by
  unfold matchRK
  split <;> first | rfl | (split <;> first | rfl | exact matchSCs_congr h _ _)
theorem matchRess_congr {hs rs rs' : List (Option Res)} (h : ∀ r, listed hs r = true → rs.getD r none = rs'.getD r none) : ∀ (as bs bs' : List (Option Res)), as.length ≤ bs.length → as.length ≤ bs'.length → (∀ (r : Nat) y, as[r]? = some (some y) → bs.getD r none = bs'.getD r none) → matchRess hs rs as bs = matchRess hs rs' as bs'
  | [], _, _, _, _, _ => by simp [matchRess]
  | _ :: _, [], _, h1, _, _ => by simp at h1
  | _ :: _, _ :: _, [], _, h2, _ => by simp at h2
  | none :: as, b :: bs, b' :: bs', h1, h2, h3 => by
    have := matchRess_congr h as bs bs' (by simpa using h1) (by simpa using h2) (fun r y hy => by simpa using h3 (r + 1) y (by simpa using hy))
    cases b <;> cases b' <;> simpa [matchRess] using this
  | some y :: as, b :: bs, b' :: bs', h1, h2, h3 => by
    have h0 := h3 0 y rfl
    simp only [List.getD_cons_zero] at h0
    subst h0
    have := matchRess_congr h as bs bs' (by simpa using h1) (by simpa using h2) (fun r y hy => by simpa using h3 (r + 1) y (by simpa using hy))
    cases b with
    | none => rfl
    | some b => simp only [matchRess, matchRK_congr h, this]
theorem setAll_get : ∀ {wr : List (Nat × Res)} {rs : List (Option Res)}, (∀ p ∈ wr, p.1 < rs.length) → (wr.map (·.1)).Nodup → ∀ r, (setAll rs wr)[r]? = match wr.find? (·.1 == r) with
    | some p => some (some p.2)
    | none => rs[r]?
  | [], rs, _, _, r => rfl
  | p :: wr, rs, h, hn, r => by
    simp only [List.map_cons, List.nodup_cons] at hn
    have ih := setAll_get (wr := wr) (rs := rs.set p.1 (some p.2)) (fun q hq => by rw [List.length_set]; exact h q (List.mem_cons_of_mem _ hq)) hn.2 r
    show (setAll (rs.set p.1 (some p.2)) wr)[r]? = _
    rw [ih, List.find?_cons]
    by_cases e : p.1 = r
    · have hno : wr.find? (·.1 == r) = none := List.find?_eq_none.2 fun q hq => by
        simp only [beq_iff_eq]
        intro hqr
        exact hn.1 (List.mem_map.2 ⟨q, hq, by rw [hqr, e]⟩)
      rw [hno]
      have e' : (p.1 == r) = true := by simpa using e
      rw [e']
      simp only
      rw [e]
      exact getElem?_set_has (by rw [← e]; exact h p List.mem_cons_self)
    · have e' : (p.1 == r) = false := by simpa using e
      rw [e']
      cases wr.find? (·.1 == r) with
      | some q => rfl
      | none => simp only; rw [List.getElem?_set, if_neg e]
theorem wrPr_zip {L : LoopSig} {xs : List X} {l : List (Nat × Res)} (hl : l.map (·.1) = listedOf L.head.res) (h : ∀ p ∈ l, σ.has p.1 p.2) (hlen : L.head.res.length ≤ σ.res.length) :
    setAll σ.res (wrPr L xs (resAt l L.head.res.length)) = zipRes (instRK (subOf L xs) (versOf L σ)) 0 L.head.res σ.res := by
  obtain ⟨z1, z2⟩ := zipRes_get (f := instRK (subOf L xs) (versOf L σ)) (k := 0) hlen
  have hv : versOf L ⟨[], resAt l L.head.res.length⟩ = versOf L σ := by
    funext r
    simp only [versOf]
    by_cases hr : listed L.head.res r = true
    · rw [resAt_get (hs := L.head.res) hl h hr]
    · have : L.head.res.getD r none = none := by
        unfold listed at hr
        cases hx : L.head.res.getD r none with
        | none => rfl
        | some z => rw [hx] at hr; simp at hr
      rw [this]
  have keys : (wrPr L xs (resAt l L.head.res.length)).map (·.1) = listedOf L.head.res := by
    unfold wrPr
    have : ∀ ks : List Nat, (∀ r ∈ ks, listed L.head.res r = true) → (ks.filterMap fun r => match L.head.res.getD r none with
        | some y => some (r, (⟨tt, instRK (subOf L xs) (versOf L ⟨[], resAt l L.head.res.length⟩) r y.k⟩ : Res))
        | none => none).map (·.1) = ks := by
      intro ks
      induction ks with
      | nil => intro _; rfl
      | cons r ks ih =>
        intro hk
        obtain ⟨y, _, hy⟩ := listed_get (hk r List.mem_cons_self)
        rw [List.filterMap_cons, hy]
        simp only [List.map_cons]
        rw [ih fun q hq => hk q (List.mem_cons_of_mem _ hq)]
    exact this _ fun r hr => (List.mem_filter.1 hr).2
  have nodup : ((wrPr L xs (resAt l L.head.res.length)).map (·.1)).Nodup := by
    rw [keys]; exact List.Pairwise.filter _ List.nodup_range
  have mem : ∀ p ∈ wrPr L xs (resAt l L.head.res.length), ∃ y, L.head.res[p.1]? = some (some y) ∧ p.2 = ⟨tt, instRK (subOf L xs) (versOf L σ) p.1 y.k⟩ := by
    intro p hp
    unfold wrPr at hp
    obtain ⟨r, hr, hp⟩ := List.mem_filterMap.1 hp
    have hr' := (List.mem_filter.1 hr).2
    obtain ⟨y, hy1, hy2⟩ := listed_get hr'
    rw [hy2] at hp
    simp only [Option.some.injEq] at hp
    subst hp
    exact ⟨y, hy1, by rw [hv]⟩
  apply List.ext_getElem?
  intro r
  rw [setAll_get (fun p hp => by
    obtain ⟨y, hy, _⟩ := mem p hp
    have := (List.getElem?_eq_some_iff.1 hy).1
    omega) nodup]
  cases hf : (wrPr L xs (resAt l L.head.res.length)).find? (·.1 == r) with
  | some p =>
    have hp1 : p.1 = r := by have := List.find?_some hf; simpa using this
    obtain ⟨y, hy, hp2⟩ := mem p (List.mem_of_find?_eq_some hf)
    rw [hp1] at hy hp2
    have := (z2 r).1 y hy
    rw [Nat.zero_add] at this
    rw [this, ← hp2]
  | none =>
    refine ((z2 r).2 fun y hy => ?_).symm
    have hlr := listed_of hy
    have hmem : r ∈ (wrPr L xs (resAt l L.head.res.length)).map (·.1) := by
      rw [keys]
      have := (List.getElem?_eq_some_iff.1 hy).1
      simp [listedOf, this, hlr]
    obtain ⟨p, hp, rfl⟩ := List.mem_map.1 hmem
    have := List.find?_eq_none.1 hf p hp
    simp at this
theorem zipSlots_nil {f : SV → SV} : ∀ {as bs : List SV} {k : Nat}, zipSlots [] f k as bs = bs
  | [], [], _ => rfl
  | [], _ :: _, _ => rfl
  | _ :: _, [], _ => rfl
  | a :: as, b :: bs, k => by simp [zipSlots, zipSlots_nil (as := as) (bs := bs)]
theorem sameX_eq : ∀ {as bs : List X}, sameX as bs = true → as = bs
  | [], [], _ => rfl
  | a :: as, b :: bs, h => by
    simp only [sameX, Bool.and_eq_true] at h
    rw [X.beq_eq _ _ h.1, sameX_eq h.2]
  | [], _ :: _, h => by cases h
  | _ :: _, [], h => by cases h
theorem anys_match {hs rs : List (Option Res)} : ∀ {sl : List SV}, matchSVs hs rs (anys sl.length) sl = some []
  | [] => rfl
  | s :: sl => by
    have ih := anys_match (hs := hs) (rs := rs) (sl := sl)
    have e : anys (s :: sl).length = .any :: anys sl.length := rfl
    rw [e]
    unfold matchSVs
    rw [ih]
    simp [matchSV]
theorem last_len {L : LoopSig} (h : lastSome L.head.res = true) {l : List (Nat × Res)} (hl : l.map (·.1) = listedOf L.head.res) (hh : ∀ p ∈ l, σ.has p.1 p.2) : L.head.res.length ≤ σ.res.length := by
  cases hn : L.head.res.length with
  | zero => omega
  | succ n =>
    have hne : L.head.res ≠ [] := by intro e; rw [e] at hn; cases hn
    have hg : L.head.res.getLast? = L.head.res[n]? := by rw [List.getLast?_eq_getElem?, hn]; rfl
    have hlt : n < L.head.res.length := by omega
    unfold lastSome at h
    rw [hg, List.getElem?_eq_getElem hlt] at h
    cases hx : L.head.res[n] with
    | none => rw [hx] at h; cases h
    | some y =>
      have hy : L.head.res[n]? = some (some y) := by rw [List.getElem?_eq_getElem hlt, hx]
      have hmem : n ∈ l.map (·.1) := by rw [hl]; simp [listedOf, hlt, listed_of hy]
      obtain ⟨p, hp, rfl⟩ := List.mem_map.1 hmem
      have := (List.getElem?_eq_some_iff.1 (hh p hp)).1
      omega
theorem eff_proc (h : Inv K σ gh a w) {f : FuncId} {S : Sig} {L : LoopSig} {m : Nat} {svs : List SV} {vals : List Value} (hlen : svs.length = vals.length) (hargs : ∀ (j : Nat) s v, svs[j]? = some s → vals[j]? = some v → SV.rel K.Φ K.ρ w gh s v)
    {G : X} {eo : EO} {pre : FuncId → List D → Prop} (hM : ProcMeets P f S L m (pre L.key) (K.Φ L.key)) (hrun : (execOp a.eval o).run P w = .ok (.enter f vals.toArray) w)
    (he : (effProc G S L m svs).run σ.res = some eo) (hn : ∀ n ∈ eo.nd, n.holds pre K.Φ K.ρ) : EffOk K σ P o a w eo := by
  unfold effProc at he
  split at he
  · exact (RM.run_fail he).elim
  · rename_i hc0
    simp only [Bool.not_eq_true, Bool.not_eq_false', Bool.and_eq_true] at hc0
    obtain ⟨l, he, hl, hh⟩ := readAll_run he
    have hrl := last_len hc0.2 hl hh
    have hag : ∀ r, listed L.head.res r = true → (resAt l L.head.res.length).getD r none = σ.res.getD r none := fun r hr => resAt_get hl hh hr
    have hag2 : ∀ (r : Nat) y, L.head.res[r]? = some (some y) → (resAt l L.head.res.length).getD r none = σ.res.getD r none := fun r y hy => hag r (listed_of hy)
    have hrsl : L.head.res.length ≤ (resAt l L.head.res.length).length := by simp [resAt]
    simp only at he
    split at he
    · rename_i xs ys hx hy
      split at he
      · rename_i hc
        simp only [Bool.and_eq_true, beq_iff_eq] at hc
        obtain ⟨⟨hc1, hsc⟩, hal⟩ := hc
        have hys := sameX_eq hc1
        split at he
        · rename_i rv hrv
          have := RM.run_done he
          subst this
          have hx' : matchHead L.head L.nv ⟨svs ++ List.replicate (L.head.slots.length - svs.length) .und, σ.res⟩ = some xs := by
            rw [← hx]
            unfold matchHead
            rw [matchSVs_congr hag, matchRess_congr hag _ _ _ hrsl hrl hag2]
          have hy' : matchHead ⟨anys σ.slots.length, L.head.res⟩ m σ = some ys := by
            rw [← hy]
            unfold matchHead
            simp only
            rw [anys_match, matchRess_congr hag _ _ _ hrsl hrl hag2]
            rfl
          obtain ⟨lx, mx, hkx⟩ := match_ok hx'
          obtain ⟨ly, my, hky⟩ := match_ok hy'
          have hlx := hkx.len
          have hly := hky.len
          have hmle : m ≤ xs.length := by
            have := congrArg List.length hys
            rw [List.length_take, hly] at this
            omega
          let fr : Act := frameOf L.head.slots.length vals
          let K1 : Ctx := { K with wok := fun _ => true, a0 := fr }
          let τ : St := ⟨svs ++ List.replicate (L.head.slots.length - svs.length) .und, σ.res⟩
          obtain ⟨sl1, _⟩ := matchSVs_get hkx.slots
          have hτ : Inv K1 τ gh fr w := by
            refine h.frame rfl ?_ (fun n s hs => ?_) (fun n hn => by cases hn)
            · simp [fr, frameOf, hlen]
            · by_cases hlt : n < svs.length
              · rw [List.getElem?_append_left hlt] at hs
                have hv : vals[n]? = some vals[n] := List.getElem?_eq_getElem (by omega)
                have := hargs n s _ hs hv
                have e : fr.tmps.getD n undef = vals[n] := by
                  simp only [fr, frameOf, Array.getD_eq_getD_getElem?]
                  rw [Array.getElem?_append_left (by simp; omega)]
                  simp [hv]
                rw [e]
                exact this
              · rw [List.getElem?_append_right (by omega), List.getElem?_replicate] at hs
                split at hs
                · simp only [Option.some.injEq] at hs
                  subst hs
                  show fr.tmps.getD n undef = undef
                  simp only [fr, frameOf, Array.getD_eq_getD_getElem?]
                  rw [Array.getElem?_append_right (by simp; omega), Array.getElem?_replicate]
                  split <;> rfl
                · cases hs
          have hI := loop_enter hτ hx'
          have hpre : pre L.key ((consX xs).ds K.Φ K.ρ) := hn (.pre L.key (consX xs)) (by simp)
          rw [ds_consX] at hpre
          have hcall := hM.2 (loopCtx K1 L xs τ gh fr w) (gh.cut L.head.res) vals w rfl (by simp [loopCtx, hlx]) hpre (by rw [← hlen]; exact hal) hI
          refine Does.enter hrun (hcall.mono fun e w' ⟨v, vs2, outs, gh', F', hfn, hvl, hev, hres, hfin, hle⟩ => ⟨v, hev, ?_⟩)
          have hfn' : K.Φ L.key (xs.map (X.d K.Φ K.ρ)) = .i 0 :: (vs2 ++ outs) := hfn
          let L' : LoopSig := { L with head := ⟨anys σ.slots.length, L.head.res⟩, nv := m, ws := [] }
          let K' : Ctx := { loopCtx K1 L xs τ gh fr w with ρ := setVars ((xs.map (X.d K.Φ K.ρ)).take m) L.wv vs2, gh0 := gh', wok := fun n => L'.ws.contains n, a0 := a }
          have hL : Inv K' L'.head gh' a w' := hfin.frame h.defers (by rw [h.size]; simp [anys]) (fun n s hs => by
            have : s = .any := by
              have hs' : (List.replicate σ.slots.length SV.any)[n]? = some s := hs
              rw [List.getElem?_replicate] at hs'
              split at hs'
              · simpa using hs'.symm
              · cases hs'
            subst this
            trivial) (fun n _ => rfl)
          have hsub : ∀ i, i < L'.nv → (subOf L xs i).d K.Φ K.ρ = K'.ρ.getD i default := by
            intro i hi
            have hi' : i < ((xs.map (X.d K.Φ K.ρ)).take m).length := by rw [List.length_take, List.length_map]; have : i < m := hi; omega
            show _ = (setVars ((xs.map (X.d K.Φ K.ρ)).take m) L.wv vs2).getD i default
            rw [setVars_get _ _ _ hi']
            unfold subOf
            cases hpi : posIn i L.wv with
            | some j =>
              have hj := (List.getElem?_eq_some_iff.1 (posIn_get hpi)).1
              simp only [X.d, ds_consX, hfn', List.getD_cons_succ]
              simp only [List.getD]
              rw [List.getElem?_append_left (by omega)]
            | none =>
              have hix : i < xs.length := by have : i < m := hi; omega
              simp only [List.getD, List.getElem?_take, List.getElem?_map, List.getElem?_eq_getElem hix, Option.map_some, Option.getD_some, if_pos (show i < m from hi)]
          obtain ⟨r1, r2⟩ := leave_with h (L := L') hy' rfl (K' := K') rfl (sub := subOf L xs) hsub rfl rfl rfl rfl hL ⟨hle.β, hle.F, hle.Fn, hle.rv⟩
          refine ⟨afterGh L' σ gh gh', ?_, resSV_rel (gh := afterGh L' σ gh gh') hrv (hres.scalar hsc) fun i hi => ?_⟩
          · have e : afterWith L' (subOf L xs) σ = ⟨σ.slots, setAll σ.res (wrPr L xs (resAt l L.head.res.length))⟩ := by
              unfold afterWith
              rw [wrPr_zip hl hh hrl]
              congr 1
              exact zipSlots_nil
            rw [e] at r1
            exact r1
          · simp only [X.d, ds_consX, hfn']
            rw [show L.wv.length + 1 + i = (L.wv.length + i) + 1 by omega, List.getD_cons_succ]
            simp only [List.getD]
            rw [List.getElem?_append_right (by omega)]
            congr 2
            omega
        · exact (RM.run_fail he).elim
      · exact (RM.run_fail he).elim
    · exact (RM.run_fail he).elim
variable {sg : FuncId → Option Sig}
theorem own_cond {S : Sig} {ow : Bool} {Q : Nat → Prop} (h : ¬ (S.w.isSome || !(ow || oNs S.rs == 0)) = true) (hq : ow = true → ∀ i, i < oNs S.rs → Q i) : ¬ S.w.isSome = true ∧ ∀ i, i < oNs S.rs → Q i := by
  simp only [Bool.or_eq_true, Bool.not_eq_true', Bool.or_eq_false_iff, not_or, not_and, Bool.not_eq_false] at h
  refine ⟨h.1, fun i hi => ?_⟩
  cases ow with
  | true => exact hq rfl i hi
  | false => have := h.2 rfl; simp at this; omega
theorem eff_callAny (h : Inv K σ gh a w) {f : FuncId} {svs : List SV} {vals : List Value} (hlen : svs.length = vals.length) (hargs : ∀ (j : Nat) s v, svs[j]? = some s → vals[j]? = some v → SV.rel K.Φ K.ρ w gh s v) {G : X} (hG : (G.d K.Φ K.ρ).bool = true) {eo : EO} {id : Nat} {ow : Bool} (hid : ∀ S, sg f = some S → ow = true → ∀ i, i < oNs S.rs → σ.res[id + i]? = some none)
    {pre : FuncId → List D → Prop} (hM : ∀ f S, sg f = some S → MeetsAt P f S pre K.Φ) (hlt : f < 20000) (hrun : (∀ w, (callFunc f vals.toArray).run P w = .ok (.enter f vals.toArray) w) → (execOp a.eval o).run P w = .ok (.enter f vals.toArray) w)
    (he : (effCall sg G id ow f svs).run σ.res = some eo) (hn : ∀ n ∈ eo.nd, n.holds pre K.Φ K.ρ) : EffOk K σ P o a w eo := by
  unfold effCall at he
  split at he
  · rename_i S hS
    split at he
    · exact (RM.run_fail he).elim
    · rename_i hw
      obtain ⟨hw, hid'⟩ := own_cond hw (hid S hS)
      split at he
      · rename_i hpc
        have hMP := (hM f S hS).plain hw hpc
        split at he
        · rename_i q hq
          obtain ⟨he1, he2⟩ := hMP.row hq
          exact eff_row h hlen hargs hG ⟨he1, he2⟩ hrun he hn
        · rename_i hq
          obtain ⟨he1, he2⟩ := (hMP.of hq).fn hlt
          exact eff_call_core h hlen hargs hG hid' (pre := pre) (fun F ds hF hA hp => ⟨f, _, hrun (he1 _), he2 w F _ ds hF hA hp⟩) he hn
      · rename_i hpc
        split at he
        · rename_i p hp
          have hmem : ∀ {l : List (LoopSig × Nat)} {vs : List SV} {p : LoopSig × Nat}, pickL l vs = some p → p ∈ l := by
            intro l
            induction l with
            | nil => intro vs p h; cases h
            | cons q l ih =>
              intro vs p h
              unfold pickL at h
              split at h
              · simp only [Option.some.injEq] at h; subst h; exact List.mem_cons_self
              · exact List.mem_cons_of_mem _ (ih h)
          have hP := ((hM f S hS).proc hw hpc).2 p (hmem hp)
          exact eff_proc h hlen hargs hP (hrun (hP.1 _)) he hn
        · exact (RM.run_fail he).elim
  · exact (RM.run_fail he).elim
theorem eff_callV (h : Inv K σ gh a w) {c : Call} {x : Operand} (ho : o.op = .call c) (hc : c.callee = .value x) {G : X} (hG : (G.d K.Φ K.ρ).bool = true) {eo : EO} {sg : FuncId → Option Sig}
    {id : Nat} {ow : Bool} (hid : ∀ f S, ow = true → (strip G (σ.opd x)) = .c (.fn f []) → sg f = some S → ∀ i, i < oNs S.rs → σ.res[id + i]? = some none) (how : ow = true → ∃ f, strip G (σ.opd x) = .c (.fn f []))
    {pre : FuncId → List D → Prop} (hM : ∀ f S, sg f = some S → MeetsAt P f S pre K.Φ)
    (he : (effCallV sg G id ow (strip G (σ.opd x)) (c.args.toList.map fun x => strip G (σ.opd x)) c.argTypes.toList).run σ.res = some eo) (hn : ∀ n ∈ eo.nd, n.holds pre K.Φ K.ρ) : EffOk K σ P o a w eo := by
  have hx := strip_rel hG (h.opd x)
  unfold effCallV at he
  split at he
  · rename_i f caps hf
    rw [hf] at hx
    obtain ⟨vs, hv, hsz, hb⟩ := hx
    split at he
    · rename_i hlt
      have hlt : f < 20000 := by simpa using hlt
      have e : (c.args.toList.map a.eval ++ vs.toList).toArray = (c.args.toList.map a.eval).toArray ++ vs := by apply Array.ext'; simp
      refine eff_callAny h (vals := c.args.toList.map a.eval ++ vs.toList) ?_ ?_ hG (fun S hS ho' => by
          obtain ⟨f0, hf0⟩ := how ho'
          rw [hf] at hf0
          simp only [SV.c.injEq, SC.fn.injEq] at hf0
          obtain ⟨rfl, rfl⟩ := hf0
          exact hid f S ho' hf hS) hM hlt (fun henter => callV_run ho hc hv e (henter _)) he hn
      · simp [hsz]
      · intro j s v hs hv'
        by_cases hj : j < c.args.toList.length
        · rw [List.getElem?_append_left (by simpa using hj)] at hs hv'
          exact args_rel h hG c.args.toList j s v hs hv'
        · rw [List.getElem?_append_right (by simpa using Nat.le_of_not_lt hj)] at hs hv'
          simp only [List.length_map, List.getElem?_map, Option.map_eq_some_iff] at hs hv'
          obtain ⟨cp, hcp, rfl⟩ := hs
          obtain ⟨b, hb1, hb2⟩ := hb _ cp hcp
          refine ⟨b, hb1, ?_⟩
          rw [← hb2]
          have e : vs.toList[j - c.args.toList.length]? = some v := hv'
          rw [Array.getElem?_toList] at e
          rw [Array.getD_eq_getD_getElem?, e]
          rfl
    · exact (RM.run_fail he).elim
  · rename_i e hf
    rw [hf] at hx
    unfold effCall at he
    split at he
    · rename_i S hS
      split at he
      · exact (RM.run_fail he).elim
      · rename_i hw
        obtain ⟨hw, hid'⟩ := own_cond (Q := fun i => σ.res[id + i]? = some none) hw (by simp)
        split at he
        · rename_i hpc
          split at he
          · unfold effRow at he
            exact (RM.run_fail he).elim
          rename_i hq
          refine eff_call_core h (vals := a.eval x :: c.args.toList.map a.eval) (by simp) ?_ hG hid' (pre := pre) (fun F ds hF hA hp => ?_) he hn
          · intro j s v hs hv'
            cases j with
            | zero =>
              simp only [List.getElem?_cons_zero, Option.some.injEq] at hs hv'
              subst hs hv'
              exact hx
            | succ j => exact args_rel h hG c.args.toList j s v (by simpa using hs) (by simpa using hv')
          · obtain ⟨f, vs', hv, he1, he2⟩ := (((hM _ S hS).plain hw hpc).of hq).dyn (by simp [dynKey]) w F _ _ ds hF hA hp
            exact ⟨f, _, callV_run ho hc hv rfl (he1 w), he2⟩
        · rename_i hpc
          rcases hM _ S hS with h1 | h1 | h1
          · rw [h1] at hw; exact absurd rfl hw
          · rw [h1.1] at hpc; exact absurd rfl hpc
          · exact absurd h1.2.1 (Nat.not_lt.2 (Nat.le_add_right _ _))
    · exact (RM.run_fail he).elim
  · exact (RM.run_fail he).elim
end
end Go.RV
namespace Go.RV
open Go.RowKit
section
variable {P : Program} {K : Ctx} {σ : St} {gh : Gh} {a : Act} {w : World} {o : Oper}
theorem eff_bin (h : Inv K σ gh a w) {op : BinOp} {t t' : TypeId} {x y : Operand} (ho : o.op = .binOp op t x y t') {G : X} (hG : (G.d K.Φ K.ρ).bool = true) {eo : EO} {pre : FuncId → List D → Prop}
    (he : (effBin P op t (strip G (σ.opd x)) (strip G (σ.opd y))).run σ.res = some eo) (hn : ∀ n ∈ eo.nd, n.holds pre K.Φ K.ρ) : EffOk K σ P o a w eo := by
  have hx := strip_rel hG (h.opd x)
  have hy := strip_rel hG (h.opd y)
  generalize strip G (σ.opd x) = sx at *
  generalize strip G (σ.opd y) = sy at *
  match sx, sy with
  | .c (.x (.int k) ex), .c (.x (.int k') ey) => exact eff_bin_int h ho hx hy he hn
  | .c (.x .bool ex), .c (.x .bool ey) => exact eff_bin_bool h ho hx hy he
  | .c (.x .str ex), .c (.x .str ey) => exact eff_bin_str h ho hx hy he
  | .agg cs, .agg cs' => exact eff_bin_agg h ho hx hy he
  | .c (.x (.int _) _), .c (.x .bool _) | .c (.x (.int _) _), .c (.x .str _) | .c (.x (.int _) _), .c (.x (.sl _ _) _) | .c (.x (.int _) _), .c (.x (.pt _) _) | .c (.x (.int _) _), .c (.x .clo _) => exact (RM.run_fail he).elim
  | .c (.x .bool _), .c (.x (.int _) _) | .c (.x .bool _), .c (.x .str _) | .c (.x .bool _), .c (.x (.sl _ _) _) | .c (.x .bool _), .c (.x (.pt _) _) | .c (.x .bool _), .c (.x .clo _) => exact (RM.run_fail he).elim
  | .c (.x .str _), .c (.x (.int _) _) | .c (.x .str _), .c (.x .bool _) | .c (.x .str _), .c (.x (.sl _ _) _) | .c (.x .str _), .c (.x (.pt _) _) | .c (.x .str _), .c (.x .clo _) => exact (RM.run_fail he).elim
  | .c (.x (.sl _ _) _), _ | .c (.x (.pt _) _), _ | .c (.x .clo _), _ | .c (.ptr _ _), _ | .c (.ea ..), _ | .c (.pa ..), _ | .c (.row ..), _ | .c (.ra ..), _ | .c (.da ..), _ | .c (.fn ..), _ | .c (.cst _), _ | .c .any, _ => exact (RM.run_fail he).elim
  | .tup _, _ | .grd _ _, _ | .und, _ | .any, _ => exact (RM.run_fail he).elim
  | .c (.x (.int _) _), .agg _ | .c (.x (.int _) _), .tup _ | .c (.x (.int _) _), .grd _ _ | .c (.x (.int _) _), .und | .c (.x (.int _) _), .any => exact (RM.run_fail he).elim
  | .c (.x .bool _), .agg _ | .c (.x .bool _), .tup _ | .c (.x .bool _), .grd _ _ | .c (.x .bool _), .und | .c (.x .bool _), .any => exact (RM.run_fail he).elim
  | .c (.x .str _), .agg _ | .c (.x .str _), .tup _ | .c (.x .str _), .grd _ _ | .c (.x .str _), .und | .c (.x .str _), .any => exact (RM.run_fail he).elim
  | .agg _, .c _ | .agg _, .tup _ | .agg _, .grd _ _ | .agg _, .und | .agg _, .any => exact (RM.run_fail he).elim
  | .c (.x (.int _) _), .c (.ptr _ _) | .c (.x (.int _) _), .c (.ea ..) | .c (.x (.int _) _), .c (.pa ..) | .c (.x (.int _) _), .c (.row ..) | .c (.x (.int _) _), .c (.ra ..) | .c (.x (.int _) _), .c (.da ..) | .c (.x (.int _) _), .c (.fn ..) | .c (.x (.int _) _), .c (.cst _) | .c (.x (.int _) _), .c .any => exact (RM.run_fail he).elim
  | .c (.x .bool _), .c (.ptr _ _) | .c (.x .bool _), .c (.ea ..) | .c (.x .bool _), .c (.pa ..) | .c (.x .bool _), .c (.row ..) | .c (.x .bool _), .c (.ra ..) | .c (.x .bool _), .c (.da ..) | .c (.x .bool _), .c (.fn ..) | .c (.x .bool _), .c (.cst _) | .c (.x .bool _), .c .any => exact (RM.run_fail he).elim
  | .c (.x .str _), .c (.ptr _ _) | .c (.x .str _), .c (.ea ..) | .c (.x .str _), .c (.pa ..) | .c (.x .str _), .c (.row ..) | .c (.x .str _), .c (.ra ..) | .c (.x .str _), .c (.da ..) | .c (.x .str _), .c (.fn ..) | .c (.x .str _), .c (.cst _) | .c (.x .str _), .c .any => exact (RM.run_fail he).elim
variable {sg : FuncId → Option Sig}
theorem rsBeq_eq : ∀ {as bs : List (Bool × List CT)}, rsBeq as bs = true → as = bs
  | [], [], _ => rfl
  | a :: as, b :: bs, h => by
    simp only [rsBeq, Bool.and_eq_true, beq_iff_eq] at h
    rw [rsBeq_eq h.2]
    have := CT.beqs_eq _ _ h.1.2
    rw [show a = b from Prod.ext h.1.1 this]
  | [], _ :: _, h => by cases h
  | _ :: _, [], h => by cases h
theorem psels_ds {e : X} {t0 : TypeId} {cts0 : List CT} {xs : List D} (hd : e.d K.Φ K.ρ = .c t0 cts0 xs) {n : Nat} (hn : xs.length = n) : (consX (psels e n)).ds K.Φ K.ρ = xs := by
  rw [ds_consX]
  apply List.ext_getElem?
  intro j
  simp only [psels, List.map_map, List.getElem?_map]
  by_cases hj : j < n
  · rw [List.getElem?_range hj, List.getElem?_eq_getElem (by omega)]
    simp only [Option.map_some, Function.comp, X.d, hd, D.ptd, Option.some.injEq]
    simp [List.getD, List.getElem?_eq_getElem (show j < xs.length by omega)]
  · rw [List.getElem?_eq_none (by simpa using hj), List.getElem?_eq_none (by omega)]
    rfl
theorem invOf_spec {rs : List (Bool × List CT)} {e : X} {t0 : TypeId} {cts0 : List CT} {xs : List D} (hd : e.d K.Φ K.ρ = .c t0 cts0 xs) (hlen : xs.length = cts0.length) {pre : FuncId → List D → Prop} :
    ∀ {l : List (TypeId × FuncId)} {mk : Nat → X} {nds : List Nd}, invOf sg rs e l = some (mk, nds) → ((anyTag e l).d K.Φ K.ρ).bool = true → (∀ n ∈ nds, n.holds pre K.Φ K.ρ) →
    ∃ f S, (t0, f) ∈ l ∧ sg f = some S ∧ S.ps = [(true, cts0)] ∧ S.rs = rs ∧ S.pc.isEmpty = true ∧ ¬ S.w.isSome = true ∧ f < 20000 ∧ oNs S.rs = 0 ∧ pre f xs ∧ ∀ j, (mk j).d K.Φ K.ρ = (K.Φ f xs).getD j default
  | [], mk, nds, _, ha, _ => by simp [anyTag, X.d] at ha
  | (t, f) :: l, mk, nds, h, ha, hn => by
    have htag : ((X.un (.tag t) e).d K.Φ K.ρ) = .b (t0 == t) := by simp only [X.d, Op1.ev, hd]; rfl
    unfold invOf at h
    split at h
    · rename_i S mk' nds' hs hi
      split at h
      · rename_i cts hps
        split at h
        · rename_i hc
          simp only [Bool.and_eq_true, Bool.not_eq_true'] at hc
          obtain ⟨⟨⟨⟨hc1, hc2⟩, hc3⟩, hc4⟩, hc5⟩ := hc
          simp only [Option.some.injEq, Prod.mk.injEq] at h
          obtain ⟨rfl, rfl⟩ := h
          by_cases ht : t0 = t
          · subst ht
            have hct := hn (.ct (.un (.tag t0) e) cts e) (by simp) (by rw [htag]; simp)
            obtain ⟨t', xs', hct⟩ := hct
            rw [hd] at hct
            simp only [D.c.injEq] at hct
            obtain ⟨_, rfl, rfl⟩ := hct
            have hpg := hn (.pg (.un (.tag t0) e) f (consX (psels e cts0.length))) (by simp) (by rw [htag]; simp)
            rw [psels_ds hd hlen] at hpg
            refine ⟨f, S, by simp, hs, hps, rsBeq_eq hc3, hc1, by simp [hc2], (Nat.le_of_ble_eq_true hc4 : f + 1 ≤ 20000), by simpa using hc5, hpg, fun j => ?_⟩
            show (if ((X.un (.tag t0) e).d K.Φ K.ρ).bool = true then (X.app f (consX (psels e cts0.length)) j).d K.Φ K.ρ else _) = _
            rw [htag]
            simp only [beq_self_eq_true, D.bool_b, if_true, X.d, psels_ds hd hlen]
          · have ha' : ((anyTag e l).d K.Φ K.ρ).bool = true := by
              have : (if ((X.un (.tag t) e).d K.Φ K.ρ).bool = true then (X.t true).d K.Φ K.ρ else (anyTag e l).d K.Φ K.ρ).bool = true := ha
              rw [htag, beq_false_of_ne ht] at this
              simpa using this
            obtain ⟨f', S', h1, h2, h3, h4, h5, h6, h7, h70, h8, h9⟩ := invOf_spec hd hlen hi ha' fun n hn' => hn n (by simp [hn'])
            refine ⟨f', S', by simp [h1], h2, h3, h4, h5, h6, h7, h70, h8, fun j => ?_⟩
            show (if ((X.un (.tag t) e).d K.Φ K.ρ).bool = true then _ else (mk' j).d K.Φ K.ρ) = _
            rw [htag, beq_false_of_ne ht]
            simpa using h9 j
        · cases h
      · cases h
    · cases h
theorem methF_run {name : String} {t : TypeId} {f : FuncId} (h : methF P name t = some f) (vs : Array Value) (w : World) : (method (P.types.size + Made.depth) t (.agg vs) name).run P w = .ok (f, .agg vs) w := by
  have hdep : P.types.size + Made.depth = (P.types.size + Made.depth - 1) + 1 := by
    have : 0 < Made.depth := by decide
    omega
  unfold methF at h
  split at h
  · rename_i i hi
    split at h
    · rename_i m hm
      split at h
      · rename_i f' hf
        split at h
        · rename_i fs hu
          split at h
          · rename_i hp
            simp only [Option.some.injEq] at h
            subst h
            have hp' : m.path.toList = [] := by simpa using hp
            have hti : (typeInfo t).run P w = .ok i w := by simp [typeInfo, hi]
            rw [hdep]
            simp only [method, Sem.run_bind, hti, Result.andThen_ok, hm, hp', follow, Sem.run_pure, hf, receiverAt, run_underlying hu, Place.get]
          · cases h
        · cases h
      · cases h
    · cases h
  · cases h
theorem mem_cands {name : String} {t : TypeId} {f : FuncId} (h : (t, f) ∈ cands P name) : methF P name t = some f := by
  unfold cands at h
  obtain ⟨t', _, h⟩ := List.mem_filterMap.1 h
  simp only [Option.map_eq_some_iff, Prod.mk.injEq] at h
  obtain ⟨f', h1, rfl, rfl⟩ := h
  exact h1
theorem repL_of {F : Nat → Prop} : ∀ {cts : List CT} {vs : List Value} {ds : List D}, vs.length = cts.length → ds.length = cts.length → (∀ j ct, cts[j]? = some ct → Rep w F ct (vs.getD j undef) (ds.getD j default)) → RepL w F cts vs ds
  | [], [], [], _, _, _ => trivial
  | ct :: cts, v :: vs, d :: ds, h1, h2, h3 => ⟨h3 0 ct rfl, repL_of (by simpa using h1) (by simpa using h2) fun j ct hj => by simpa using h3 (j + 1) ct (by simpa using hj)⟩
  | [], _ :: _, _, h1, _, _ => by simp at h1
  | [], [], _ :: _, _, h2, _ => by simp at h2
  | _ :: _, [], _, h1, _, _ => by simp at h1
  | _ :: _, _ :: _, [], _, h2, _ => by simp at h2
theorem eff_invoke (h : Inv K σ gh a w) {c : Call} {recv : Operand} {name : String} (ho : o.op = .call c) (hc : c.callee = .invoke recv name) (hargs : c.args.isEmpty = true) {G : X} (hG : (G.d K.Φ K.ρ).bool = true) {eo : EO} {pre : FuncId → List D → Prop}
    (hM : ∀ f S, sg f = some S → MeetsAt P f S pre K.Φ) (he : (effInvoke P sg (strip G (σ.opd recv)) name).run σ.res = some eo) (hn : ∀ n ∈ eo.nd, n.holds pre K.Φ K.ρ) : EffOk K σ P o a w eo := by
  have hx := strip_rel hG (h.opd recv)
  unfold effInvoke at he
  split at he
  · rename_i e hs
    rw [hs] at hx
    split at he
    · rename_i t f l hcd
      split at he
      · split at he
        · rename_i S hS _ _ mk nds hinv
          split at he
          · rename_i v hv
            have he := RM.run_done he; subst he
            obtain ⟨t0, vs, cts0, xs, hev, hd, l1, l2, l3⟩ := rep_ifc (show Rep w gh.F .ifc (a.eval recv) (e.d K.Φ K.ρ) from hx)
            obtain ⟨f', S', m1, m2, m3, m4, m5, m6, m7, m70, m8, m9⟩ := invOf_spec hd l2 hinv (hn (.c _) (by simp)) fun n hn' => hn n (by simp [hn'])
            have hmeets := (((hM f' S' m2).plain m6 m5).of (by unfold rowOf; rw [m3])).fn m7
            have hrun : (execOp a.eval o).run P w = .ok (.enter f' #[.agg vs]) w := by
              have hae : c.args = #[] := by simpa using hargs
              have hmf := methF_run (mem_cands (by rw [hcd]; exact m1)) vs w
              simp only [execOp, ho, resolve, hc, hae, Sem.run_bind, Sem.run_pure, Result.andThen_ok, invoke]
              simp [callMethod, hev, hmf, hmeets.1]
            have hA : ArgsRep w gh.F S'.ps [.agg vs] xs := by
              rw [m3]
              refine ⟨xs, [], by simp, ⟨vs.toList, by simp, repL_of (by simpa using l1) l2 fun j ct hj => ?_⟩, rfl⟩
              have e1 : vs.toList.getD j undef = vs.getD j undef := by simp [List.getD, Array.getD_eq_getD_getElem?]
              rw [e1]; exact l3 j ct hj
            have hcalls := hmeets.2 w gh.F [.agg vs] xs h.Flt hA m8
            rw [m4] at hcalls
            rw [m4] at m70
            refine Does.enter hrun (hcalls.mono fun e' w' ⟨u, F', us, hev', hres, hnew, hF1, hF2, hB⟩ => ⟨u, hev', ?_⟩)
            obtain ⟨gh', hI', hrel⟩ := call_after h hB hF1 hF2 hG (id := 0) (fun i hi => by omega) hres hnew (fun i _ => m9 i) hv
            rw [ownWr_nil m70] at hI'
            exact ⟨gh', hI', hrel⟩
          · exact (RM.run_fail he).elim
        · exact (RM.run_fail he).elim
      · exact (RM.run_fail he).elim
    · exact (RM.run_fail he).elim
  · exact (RM.run_fail he).elim
theorem eff_ok (h : Inv K σ gh a w) {G : X} (hG : (G.d K.Φ K.ρ).bool = true) {id : Nat} (hids : ∀ i, i < makes sg o.op → σ.res[id + i]? = some none) {eo : EO} {pre : FuncId → List D → Prop}
    (hM : ∀ f S, sg f = some S → MeetsAt P f S pre K.Φ) (he : (eff P sg G id (fun x => strip G (σ.opd x)) o.op).run σ.res = some eo) (hn : ∀ n ∈ eo.nd, n.holds pre K.Φ K.ρ) : EffOk K σ P o a w eo := by
  have hid : makes sg o.op = 1 → σ.res[id]? = some none := fun e => by simpa using hids 0 (by omega)
  unfold eff at he
  split at he
  · exact eff_move h (.inl (by assumption)) hG he
  · exact eff_move h (.inr (by assumption)) hG he
  · exact eff_pick h (by assumption) hG he
  · rename_i e ho
    split at he
    · have := RM.run_done he; subst this
      exact eff_alloc h ho hG (hid (by rw [ho]; rfl)) (by assumption)
    · exact (RM.run_fail he).elim
  · rename_i e x ho
    split at he
    · split at he
      · have := RM.run_done he; subst this
        exact eff_box h ho hG (hid (by rw [ho]; rfl)) (by assumption) (by assumption)
      · exact (RM.run_fail he).elim
    · exact (RM.run_fail he).elim
  · exact eff_build h (by assumption) hG he
  · rename_i t n ps ho
    exact eff_buildSlice h ho hG (hid (by rw [ho]; rfl)) he
  · exact eff_load h (by assumption) hG he
  · exact eff_store h (by assumption) hG he
  · exact eff_nilCheck h (by assumption) hG he
  · exact eff_bin h (by assumption) hG he hn
  · exact eff_un h (by assumption) hG he
  · exact eff_convertB h (by assumption) hG he
  · exact eff_fieldAddr h (by assumption) hG he
  · exact eff_field h (by assumption) hG he
  · exact eff_indexAddr h (by assumption) hG he hn
  · exact eff_index h (by assumption) hG he hn
  · exact eff_extract h (by assumption) hG he
  · rename_i t l c ho
    exact eff_makeSlice h ho hG (hid (by rw [ho]; rfl)) he hn
  · exact eff_slice h (by assumption) hG he hn
  · exact eff_makeIface h (by assumption) hG he
  · exact eff_typeAssert h (by assumption) hG he hn
  · exact eff_makeFunc h (by assumption) hG he
  · rename_i c ho
    split at he
    · split at he
      · exact eff_len h ho (by assumption) (by assumption) (by assumption) hG he
      · exact (RM.run_fail he).elim
    · split at he
      · split at he
        · exact eff_minmax h ho (mx := false) (by assumption) hG (by assumption) (by assumption) he
        · exact (RM.run_fail he).elim
      · exact (RM.run_fail he).elim
    · split at he
      · split at he
        · exact eff_minmax h ho (mx := true) (by assumption) hG (by assumption) (by assumption) he
        · exact (RM.run_fail he).elim
      · exact (RM.run_fail he).elim
    · rename_i hc
      split at he
      · rename_i s x t t' hx ht
        split at he
        · rename_i htt
          simp only [beq_iff_eq] at htt
          subst htt
          have hmk : makes sg o.op = 1 := by
            obtain ⟨callee, args, argTypes⟩ := c
            simp only at hc
            subst hc
            rw [ho]
            rfl
          exact eff_append h ho hc hx ht hG (hid hmk) he hn
        · exact (RM.run_fail he).elim
      · exact (RM.run_fail he).elim
    · rename_i x hc
      refine eff_callV h ho hc hG (fun f S ho' hf hS i hi => ?_) (fun ho' => ?_) hM he hn
      · cases x with
        | func f0 =>
          have hf0 : f0 = f := by
            have e : strip G (σ.opd (.func f0)) = .c (.fn f0 []) := rfl
            rw [e] at hf
            simpa using hf
          subst hf0
          refine hids i ?_
          have e : makes sg o.op = oNs S.rs := by
            obtain ⟨callee, args, argTypes⟩ := c
            simp only at hc
            subst hc
            rw [ho]
            simp only [makes, hS]
          omega
        | tmp _ => cases ho'
        | const _ => cases ho'
        | global _ => cases ho'
      · cases x with
        | func f0 => exact ⟨f0, rfl⟩
        | tmp _ => cases ho'
        | const _ => cases ho'
        | global _ => cases ho'
    · rename_i recv name hc
      split at he
      · exact eff_invoke h ho hc (by assumption) hG hM he hn
      · exact (RM.run_fail he).elim
    · exact (RM.run_fail he).elim
  · exact (RM.run_fail he).elim
def RK.frz : RK → Bool | .box _ _ z => z | .row _ _ _ _ z => z
def WrOne (K : Ctx) (rs : List (Option Res)) (p : Nat × Res) : Prop :=
  ((∀ x, rs[p.1]? = some (some x) → ¬ x.on K) ∧ ¬ p.2.on K) ∨ FreezeOf K ⟨[], rs⟩ p ∨ (rs[p.1]? = some (some p.2) ∧ p.2.k.frz = true)
def WrOff (K : Ctx) (rs : List (Option Res)) (wr : List (Nat × Res)) : Prop := ∀ p ∈ wr, WrOne K rs p
def RM.noWr : RM → Prop
  | .fail => True
  | .done eo => eo.wr = []
  | .res _ k => ∀ R, (k R).noWr
theorem RM.noWr_run {rs : List (Option Res)} {eo : EO} : ∀ {m : RM}, m.noWr → m.run rs = some eo → eo.wr = []
  | .fail, _, he => by simp [RM.run] at he
  | .done e, h, he => by simp [RM.run] at he; subst he; exact h
  | .res r k, h, he => by
    unfold RM.run at he
    split at he
    · exact RM.noWr_run (h _) he
    · cases he
theorem RM.val_noWr {v : Option SV} {nd : List Nd} : (RM.val v nd).noWr := by
  unfold RM.val; split <;> simp [RM.noWr]
theorem off_of_noWr {rs : List (Option Res)} {eo : EO} {m : RM} (h : m.noWr) (he : m.run rs = some eo) : WrOff K rs eo.wr := by
  rw [RM.noWr_run h he]; intro p hp; cases hp
theorem effLoad_noWr {G : X} {t : TypeId} {s : SV} : (effLoad P G t s).noWr := by
  unfold effLoad
  repeat' split
  all_goals first | trivial | exact RM.val_noWr | (intro R; dsimp only; repeat' split) <;> first | trivial | exact RM.val_noWr | rfl
theorem effNilCheck_noWr {s : SV} : (effNilCheck s).noWr := by
  unfold effNilCheck; repeat' split
  all_goals first | trivial | rfl
theorem effBin_noWr {op : BinOp} {t : TypeId} {x y : SV} : (effBin P op t x y).noWr := by
  unfold effBin; repeat' split
  all_goals first | trivial | rfl
theorem effUn_noWr {op : UnOp} {x : SV} : (effUn op x).noWr := by
  unfold effUn; repeat' split
  all_goals first | trivial | rfl
theorem effConvert_noWr {s d : TypeId} {x : SV} : (effConvert P s d x).noWr := by
  unfold effConvert; repeat' split
  all_goals first | trivial | rfl
theorem effConvertB_noWr {s d : TypeId} {x : SV} : (effConvertB P s d x).noWr := by
  unfold effConvertB; repeat' split
  all_goals first | exact effConvert_noWr | trivial | rfl
theorem effFieldAddr_noWr {s : TypeId} {x : SV} {f : Nat} : (effFieldAddr P s x f).noWr := by
  unfold effFieldAddr; repeat' split
  all_goals first | trivial | exact RM.val_noWr
theorem effField_noWr {s : TypeId} {x : SV} {f : Nat} : (effField P s x f).noWr := by
  unfold effField; repeat' split
  all_goals first | trivial | exact RM.val_noWr
theorem effIndexAddr_noWr {G : X} {t : TypeId} {x i : SV} : (effIndexAddr P G t x i).noWr := by
  unfold effIndexAddr
  repeat' split
  all_goals first | trivial | rfl | (intro R; dsimp only; repeat' split) <;> first | trivial | rfl
theorem effIndex_noWr {t : TypeId} {x i : SV} : (effIndex P t x i).noWr := by
  unfold effIndex; repeat' split
  all_goals first | trivial | rfl | exact RM.val_noWr
theorem effExtract_noWr {x : SV} {i : Nat} : (effExtract x i).noWr := by
  unfold effExtract; repeat' split
  all_goals first | trivial | exact RM.val_noWr
theorem effBuild_noWr {t : TypeId} {ps : List (Nat × SV)} : (effBuild P t ps).noWr := by
  unfold effBuild; repeat' split
  all_goals first | trivial | rfl
theorem effPick_noWr {G : X} {c x y : SV} : (effPick G c x y).noWr := by
  unfold effPick; repeat' split
  all_goals first | trivial | rfl
theorem effLen_noWr {G : X} {t : TypeId} {x : SV} : (effLen P G t x).noWr := by
  unfold effLen; repeat' split
  all_goals first | trivial | rfl | (intro R; dsimp only; repeat' split) <;> first | trivial | rfl
theorem effMakeIface_noWr {t : TypeId} {x : SV} : (effMakeIface P t x).noWr := by
  unfold effMakeIface; repeat' split
  all_goals first | trivial | rfl
theorem effTypeAssert_noWr {t : TypeId} {x : SV} {b : Bool} : (effTypeAssert P t x b).noWr := by
  unfold effTypeAssert; repeat' split
  all_goals first | trivial | rfl
theorem effInvoke_noWr {x : SV} {name : String} : (effInvoke P sg x name).noWr := by
  unfold effInvoke; repeat' split
  all_goals first | trivial | rfl
theorem effMakeFunc_noWr {fn : Fn} {x y : List SV} : (effMakeFunc fn x y).noWr := by
  unfold effMakeFunc; repeat' split
  all_goals first | trivial | rfl
theorem WrOff.append {rs : List (Option Res)} {wr wr' : List (Nat × Res)} (h : WrOff K rs wr) (h' : WrOff K rs wr') : WrOff K rs (wr ++ wr') := fun p hp => (List.mem_append.1 hp).elim (h p) (h' p)
theorem WrOff.nil {rs : List (Option Res)} : WrOff K rs [] := fun p hp => by cases hp
theorem WrOff.one {rs : List (Option Res)} {id : Nat} (hid : rs[id]? = some none) {G : X} (hG : ¬ (G.d K.Φ K.ρ).bool = true) {k : RK} : WrOff K rs [(id, ⟨G, k⟩)] := fun p hp => by
  simp only [List.mem_singleton] at hp; subst hp; exact .inl ⟨fun x hx => (by rw [hid] at hx; cases hx), hG⟩
theorem freeze_off {r : Nat} {R : Res} (hR : σ.has r R) {k : RK} (hk : (∃ ety cells, R.k = .box ety cells false ∧ (⟨R.g, k⟩ : Res) = ⟨R.g, .box ety cells true⟩) ∨ (∃ ety cts content ver, R.k = .row ety cts content ver false ∧ (⟨R.g, k⟩ : Res) = ⟨R.g, .row ety cts content ver true⟩)) :
    WrOff K σ.res [(r, ⟨R.g, k⟩)] := by
  intro p hp
  simp only [List.mem_singleton] at hp
  subst hp
  by_cases hon : R.on K
  · exact .inr (.inl ⟨R, hR, hon, hk⟩)
  · refine .inl ⟨fun x hx => ?_, hon⟩
    unfold St.has at hR
    rw [hR] at hx
    simp only [Option.some.injEq] at hx
    subst hx
    exact hon
theorem cellArg0_off {G : X} (_hG : ¬ (G.d K.Φ K.ρ).bool = true) {fz : Bool} {ct : CT} {s : SC} {k : X → List (Nat × Res) → RM} {eo : EO} (he : (cellArg0 G fz ct s k).run σ.res = some eo) :
    ∃ e wr, (k e wr).run σ.res = some eo ∧ WrOff K σ.res wr := by
  unfold cellArg0 at he
  split at he
  · obtain ⟨R, hR, he⟩ := RM.run_res he
    split at he
    · split at he
      · refine ⟨_, _, he, ?_⟩
        split
        · rename_i hz
          simp only [Bool.and_eq_true, Bool.not_eq_true'] at hz
          exact freeze_off hR (.inr ⟨_, _, _, _, by rw [← hz.2]; assumption, rfl⟩)
        · exact WrOff.nil
      · exact (RM.run_fail he).elim
    · exact (RM.run_fail he).elim
  · exact ⟨_, _, he, WrOff.nil⟩
  · obtain ⟨R, hR, he⟩ := RM.run_res he
    split at he
    · split at he
      · split at he
        · refine ⟨_, _, he, ?_⟩
          split
          · rename_i hz
            simp only [Bool.and_eq_true, Bool.not_eq_true'] at hz
            exact freeze_off hR (.inl ⟨_, _, by rw [← hz.2]; assumption, rfl⟩)
          · exact WrOff.nil
        · exact (RM.run_fail he).elim
      · exact (RM.run_fail he).elim
    · exact (RM.run_fail he).elim
  · split at he
    · exact ⟨_, _, he, WrOff.nil⟩
    · exact (RM.run_fail he).elim
  · exact (RM.run_fail he).elim
theorem capsArg_off {G : X} (hG : ¬ (G.d K.Φ K.ρ).bool = true) {fz : Bool} : ∀ {caps : List (Nat × Nat)} {k : List CT → List X → List (Nat × Res) → RM} {eo : EO}, (capsArg G fz caps k).run σ.res = some eo →
    ∃ ctss es wr, (k ctss es wr).run σ.res = some eo ∧ WrOff K σ.res wr
  | [], k, eo, he => ⟨[], [], [], he, WrOff.nil⟩
  | c :: caps, k, eo, he => by
    unfold capsArg at he
    obtain ⟨R, hR, he⟩ := RM.run_res he
    split at he
    · split at he
      · obtain ⟨e, wr, he, h1⟩ := cellArg0_off hG he
        obtain ⟨ctss, es, wr', he, h2⟩ := capsArg_off hG he
        exact ⟨_, _, _, he, h1.append h2⟩
      · exact (RM.run_fail he).elim
    · exact (RM.run_fail he).elim
theorem cellArg_off {G : X} (hG : ¬ (G.d K.Φ K.ρ).bool = true) {fz : Bool} {ct : CT} {s : SC} {k : X → List (Nat × Res) → RM} {eo : EO} (he : (cellArg G fz ct s k).run σ.res = some eo) :
    ∃ e wr, (k e wr).run σ.res = some eo ∧ WrOff K σ.res wr := by
  unfold cellArg at he
  split at he
  · obtain ⟨ctss, es, wr, he, h1⟩ := capsArg_off hG he
    exact ⟨_, _, he, h1⟩
  · exact cellArg0_off hG he
theorem cellsArg_off {G : X} (hG : ¬ (G.d K.Φ K.ρ).bool = true) {fz : Bool} : ∀ {cts : List CT} {cs : List SC} {k : List X → List (Nat × Res) → RM} {eo : EO}, (cellsArg G fz cts cs k).run σ.res = some eo →
    ∃ es wr, (k es wr).run σ.res = some eo ∧ WrOff K σ.res wr
  | [], [], k, eo, he => ⟨[], [], he, WrOff.nil⟩
  | ct :: cts, c :: cs, k, eo, he => by
    obtain ⟨e, wr, he, h1⟩ := cellArg_off hG he
    obtain ⟨es, wr', he, h2⟩ := cellsArg_off hG he
    exact ⟨_, _, he, h1.append h2⟩
  | [], _ :: _, k, eo, he => by simp [cellsArg, RM.run] at he
  | _ :: _, [], k, eo, he => by simp [cellsArg, RM.run] at he
theorem argsX_off {G : X} (hG : ¬ (G.d K.Φ K.ρ).bool = true) {fz : Bool} : ∀ {ps : List (Bool × List CT)} {vs : List SV} {k : List X → List (Nat × Res) → RM} {eo : EO}, (argsX G fz ps vs k).run σ.res = some eo →
    ∃ es wr, (k es wr).run σ.res = some eo ∧ WrOff K σ.res wr
  | [], [], k, eo, he => ⟨[], [], he, WrOff.nil⟩
  | p :: ps, v :: vs, k, eo, he => by
    unfold argsX at he
    split at he
    · obtain ⟨e, wr, he, h1⟩ := cellsArg_off hG he
      obtain ⟨es, wr', he, h2⟩ := argsX_off hG he
      exact ⟨_, _, he, h1.append h2⟩
    · exact (RM.run_fail he).elim
  | [], _ :: _, k, eo, he => by simp [argsX, RM.run] at he
  | _ :: _, [], k, eo, he => by simp [argsX, RM.run] at he
theorem rowsArg_off {G : X} (hG : ¬ (G.d K.Φ K.ρ).bool = true) {cts : List CT} : ∀ {ps : List (Nat × SV)} {k : X → List (Nat × Res) → RM} {eo : EO}, (rowsArg G cts ps k).run σ.res = some eo →
    ∃ e wr, (k e wr).run σ.res = some eo ∧ WrOff K σ.res wr
  | [], k, eo, he => ⟨_, _, he, WrOff.nil⟩
  | p :: ps, k, eo, he => by
    unfold rowsArg at he
    split at he
    · obtain ⟨e, wr, he, h1⟩ := cellsArg_off hG he
      obtain ⟨es, wr', he, h2⟩ := rowsArg_off hG he
      exact ⟨_, _, he, h1.append h2⟩
    · exact (RM.run_fail he).elim
theorem srcArg_off {G : X} {e : TypeId} {cts : List CT} {s : SC} {k : X → RM} {eo : EO} (he : (srcArg G e cts s k).run σ.res = some eo) : ∃ cx, (k cx).run σ.res = some eo := by
  unfold srcArg at he
  split at he
  · obtain ⟨R, hR, he⟩ := RM.run_res he
    split at he
    · split at he
      · exact ⟨_, he⟩
      · exact (RM.run_fail he).elim
    · exact (RM.run_fail he).elim
  · exact ⟨_, he⟩
  · split at he
    · exact ⟨_, he⟩
    · exact (RM.run_fail he).elim
  · exact (RM.run_fail he).elim
theorem ownWr_off {mk : Nat → X} {G : X} (hG : ¬ (G.d K.Φ K.ρ).bool = true) {rs : List (Option Res)} {cts : List CT} {j r : Nat} (hid : ∀ i, i < oN cts → rs[r + i]? = some none) : WrOff K rs (ownWr mk G j r cts) := fun p hp => by
  obtain ⟨i, h1, h2, h3⟩ := ownWr_mem hp
  refine .inl ⟨fun x hx => ?_, ?_⟩
  · rw [h2, hid i h1] at hx; cases hx
  · unfold Res.on; rw [h3]; exact hG
theorem effCall_off {G : X} (hG : ¬ (G.d K.Φ K.ρ).bool = true) {f : FuncId} {vs : List SV} {eo : EO} {id : Nat} {ow : Bool} (hid : ∀ S, sg f = some S → ow = true → ∀ i, i < oNs S.rs → σ.res[id + i]? = some none) (he : (effCall sg G id ow f vs).run σ.res = some eo) : WrOff K σ.res eo.wr := by
  unfold effCall at he
  split at he
  · rename_i S hS
    split at he
    · exact (RM.run_fail he).elim
    · rename_i hw
      obtain ⟨_, hid'⟩ := own_cond hw (hid S hS)
      split at he
      · split at he
        · unfold effRow at he
          split at he
          · obtain ⟨R, hR, he⟩ := RM.run_res he
            split at he
            · split at he
              · rename_i hc
                simp only [Bool.and_eq_true] at hc
                exact absurd (isTt_sound hc.1.1.1.1.1) hG
              · exact (RM.run_fail he).elim
            · exact (RM.run_fail he).elim
          · exact (RM.run_fail he).elim
        unfold effCall0 at he
        obtain ⟨es, wr, he, h1⟩ := argsX_off hG he
        split at he
        · have := RM.run_done he; subst this; exact h1.append (ownWr_off hG hid')
        · exact (RM.run_fail he).elim
      · split at he
        · unfold effProc at he
          split at he
          · exact (RM.run_fail he).elim
          · rename_i hc
            simp only [Bool.not_eq_true, Bool.not_eq_false', Bool.and_eq_true] at hc
            exact absurd (isTt_sound hc.1) hG
        · exact (RM.run_fail he).elim
  · exact (RM.run_fail he).elim
theorem eff_off {G : X} (hG : ¬ (G.d K.Φ K.ρ).bool = true) {id : Nat} {p : Op} (hids : ∀ i, i < makes sg p → σ.res[id + i]? = some none) {eo : EO} {arg : Operand → SV} (harg : ∀ f, arg (.func f) = .c (.fn f [])) (he : (eff P sg G id arg p).run σ.res = some eo) : WrOff K σ.res eo.wr := by
  have ntt : isTt G = true → False := fun h => hG (isTt_sound h)
  have hid : makes sg p = 1 → σ.res[id]? = some none := fun e => by simpa using hids 0 (by omega)
  unfold eff at he
  split at he
  · have := RM.run_done he; subst this; exact WrOff.nil
  · have := RM.run_done he; subst this; exact WrOff.nil
  · exact off_of_noWr effPick_noWr he
  · split at he
    · have := RM.run_done he; subst this; exact WrOff.one (hid rfl) hG
    · exact (RM.run_fail he).elim
  · split at he
    · split at he
      · have := RM.run_done he; subst this; exact WrOff.one (hid rfl) hG
      · exact (RM.run_fail he).elim
    · exact (RM.run_fail he).elim
  · exact off_of_noWr effBuild_noWr he
  · unfold effBuildSlice at he
    split at he
    · split at he
      · split at he
        · obtain ⟨e, wr, he, h1⟩ := rowsArg_off hG he
          have := RM.run_done he; subst this
          exact h1.append (WrOff.one (hid rfl) hG)
        · exact (RM.run_fail he).elim
      · exact (RM.run_fail he).elim
    · exact (RM.run_fail he).elim
  · exact off_of_noWr effLoad_noWr he
  · unfold effStore at he
    split at he
    · obtain ⟨R, hR, he⟩ := RM.run_res he
      split at he
      · split at he
        · rename_i hc
          simp only [Bool.and_eq_true] at hc
          exact (ntt hc.1.1.1.1.1).elim
        · exact (RM.run_fail he).elim
      · exact (RM.run_fail he).elim
    · obtain ⟨R, hR, he⟩ := RM.run_res he
      split at he
      · split at he
        · split at he
          · rename_i hc
            simp only [Bool.and_eq_true] at hc
            exact (ntt hc.1.1.1.1.1.1).elim
          · exact (RM.run_fail he).elim
        · exact (RM.run_fail he).elim
      · exact (RM.run_fail he).elim
    · exact (RM.run_fail he).elim
  · exact off_of_noWr effNilCheck_noWr he
  · exact off_of_noWr effBin_noWr he
  · exact off_of_noWr effUn_noWr he
  · exact off_of_noWr effConvertB_noWr he
  · exact off_of_noWr effFieldAddr_noWr he
  · exact off_of_noWr effField_noWr he
  · exact off_of_noWr effIndexAddr_noWr he
  · exact off_of_noWr effIndex_noWr he
  · exact off_of_noWr effExtract_noWr he
  · unfold effMakeSlice at he
    split at he
    · split at he
      · split at he
        · split at he
          · have := RM.run_done he; subst this; exact WrOff.one (hid rfl) hG
          · exact (RM.run_fail he).elim
        · exact (RM.run_fail he).elim
      · exact (RM.run_fail he).elim
    · exact (RM.run_fail he).elim
  · unfold effSlice at he
    split at he
    · split at he
      · split at he
        · split at he
          · have := RM.run_done he; subst this; exact WrOff.nil
          · exact (RM.run_fail he).elim
        · exact (RM.run_fail he).elim
      · obtain ⟨R, hR, he⟩ := RM.run_res he
        split at he
        · split at he
          · split at he
            · have := RM.run_done he; subst this
              rename_i frz hk _ _ _ _ _ _ _ _
              cases frz with
              | true => exact WrOff.nil
              | false => exact freeze_off hR (.inr ⟨_, _, _, _, hk, rfl⟩)
            · exact (RM.run_fail he).elim
          · exact (RM.run_fail he).elim
        · exact (RM.run_fail he).elim
      · exact (RM.run_fail he).elim
    · exact (RM.run_fail he).elim
  · exact off_of_noWr effMakeIface_noWr he
  · exact off_of_noWr effTypeAssert_noWr he
  · exact off_of_noWr effMakeFunc_noWr he
  · rename_i c
    split at he
    · split at he
      · exact off_of_noWr effLen_noWr he
      · exact (RM.run_fail he).elim
    · split at he
      · split at he
        · exact off_of_noWr RM.val_noWr he
        · exact (RM.run_fail he).elim
      · exact (RM.run_fail he).elim
    · split at he
      · split at he
        · exact off_of_noWr RM.val_noWr he
        · exact (RM.run_fail he).elim
      · exact (RM.run_fail he).elim
    · rename_i hc
      split at he
      · split at he
        · have hmk : makes sg (.call c) = 1 := by
            obtain ⟨callee, args, argTypes⟩ := c
            simp only at hc
            subst hc
            rfl
          unfold effAppend at he
          split at he
          · split at he
            · split at he
              · exact (RM.run_fail he).elim
              · split at he
                · obtain ⟨cx, he⟩ := srcArg_off he
                  split at he
                  · have := RM.run_done he; subst this; exact WrOff.one (hid hmk) hG
                  · obtain ⟨R, hR, he⟩ := RM.run_res he
                    split at he
                    · split at he
                      · rename_i hc
                        simp only [Bool.and_eq_true] at hc
                        exact (ntt hc.1.1.1.1.1).elim
                      · exact (RM.run_fail he).elim
                    · exact (RM.run_fail he).elim
                  · exact (RM.run_fail he).elim
                · exact (RM.run_fail he).elim
            · exact (RM.run_fail he).elim
          · exact (RM.run_fail he).elim
        · exact (RM.run_fail he).elim
      · exact (RM.run_fail he).elim
    · rename_i x hc
      unfold effCallV at he
      split at he
      · rename_i f caps hf
        split at he
        · refine effCall_off hG (fun S hS ho' i hi => ?_) he
          cases x with
          | func f0 =>
            rw [harg] at hf
            simp only [SV.c.injEq, SC.fn.injEq] at hf
            obtain ⟨rfl, _⟩ := hf
            refine hids i ?_
            have e : makes sg (.call c) = oNs S.rs := by
              obtain ⟨callee, args, argTypes⟩ := c
              simp only at hc
              subst hc
              simp only [makes, hS]
            omega
          | tmp _ => cases ho'
          | const _ => cases ho'
          | global _ => cases ho'
        · exact (RM.run_fail he).elim
      · exact effCall_off hG (fun S _ ho' => by cases ho') he
      · exact (RM.run_fail he).elim
    · split at he
      · exact off_of_noWr effInvoke_noWr he
      · exact (RM.run_fail he).elim
    · exact (RM.run_fail he).elim
  · exact (RM.run_fail he).elim
theorem Inv.off (h : Inv K σ gh a w) {p : Nat × Res} (hp : (∀ x, σ.res[p.1]? = some (some x) → ¬ x.on K) ∧ ¬ p.2.on K) :
    Inv K ⟨σ.slots, σ.res.set p.1 (some p.2)⟩ gh a w := by
  obtain ⟨hoff, hp2⟩ := hp
  have old : ∀ r x, (⟨σ.slots, σ.res.set p.1 (some p.2)⟩ : St).has r x → x.on K → σ.has r x := by
    intro r x hx hon
    unfold St.has at hx ⊢
    rw [List.getElem?_set] at hx
    split at hx
    · split at hx
      · simp only [Option.some.injEq] at hx
        subst hx
        exact absurd hon hp2
      · cases hx
    · exact hx
  have new : ∀ r x, σ.has r x → x.on K → (⟨σ.slots, σ.res.set p.1 (some p.2)⟩ : St).has r x := by
    intro r x hx hon
    have hne : p.1 ≠ r := by rintro rfl; exact hoff x hx hon
    unfold St.has at hx ⊢
    rw [List.getElem?_set, if_neg hne]
    exact hx
  exact ⟨h.defers, h.size, h.slot, h.kept, h.os, h.tape, h.output, h.grow, h.pr, h.prlt, h.Flt, fun r b hb => let ⟨x, hx, hon⟩ := h.beta r b hb; ⟨x, new r x hx hon, hon⟩,
    fun r hr => let ⟨x, hx, hon⟩ := h.vr0 r hr; ⟨x, new r x hx hon, hon⟩, fun r x hx hon => h.res r x (old r x hx hon) hon, fun r x b hx hon => h.own r x b (old r x hx hon) hon,
    fun r x r' x' b hx hon hx' hon' => h.inj r x r' x' b (old r x hx hon) hon (old r' x' hx' hon') hon', h.le0, h.Fpr⟩
theorem Inv.offs : ∀ {wr : List (Nat × Res)} {σ : St} {gh : Gh}, Inv K σ gh a w → WrOff K σ.res wr → ∃ gh', Inv K ⟨σ.slots, setAll σ.res wr⟩ gh' a w
  | [], σ, gh, h, _ => ⟨gh, h⟩
  | p :: wr, σ, gh, h, hw => by
    have key : ∃ gh', Inv K ⟨σ.slots, σ.res.set p.1 (some p.2)⟩ gh' a w := by
      rcases hw p (by simp) with h1 | h1 | ⟨h1, _⟩
      · exact ⟨gh, h.off h1⟩
      · obtain ⟨gh', h2, _⟩ := freeze_one h (p := p) h1
        exact ⟨gh', h2⟩
      · rw [set_same h1]; exact ⟨gh, h⟩
    obtain ⟨gh', h1⟩ := key
    refine Inv.offs (σ := ⟨σ.slots, σ.res.set p.1 (some p.2)⟩) h1 fun q hq => ?_
    have hpw := hw p (by simp)
    have hqw := hw q (by simp [hq])
    by_cases e : p.1 = q.1
    · by_cases hlt : p.1 < σ.res.length
      · have hset : (σ.res.set p.1 (some p.2))[q.1]? = some (some p.2) := by rw [← e]; exact getElem?_set_has hlt
        show WrOne K (σ.res.set p.1 (some p.2)) q
        rcases hqw with ⟨q1, q2⟩ | ⟨x, q1, q2, q3⟩ | ⟨q1, q2⟩
        · rcases hpw with ⟨p1, p2⟩ | ⟨y, p1, p2, p3⟩ | ⟨p1, p2⟩
          · exact .inl ⟨fun x hx => by rw [hset] at hx; simp only [Option.some.injEq] at hx; subst hx; exact p2, q2⟩
          · unfold St.has at p1; rw [e] at p1; exact absurd p2 (q1 y p1)
          · rw [e] at p1; exact .inl ⟨fun x hx => by rw [hset] at hx; simp only [Option.some.injEq] at hx; subst hx; exact q1 _ p1, q2⟩
        · unfold St.has at q1
          rcases hpw with ⟨p1, p2⟩ | ⟨y, p1, p2, p3⟩ | ⟨p1, p2⟩
          · rw [← e] at q1; exact absurd q2 (p1 x q1)
          · unfold St.has at p1
            have hxy : x = y := by
              simp only at p1 q1
              rw [e, q1] at p1
              simpa using p1
            subst hxy
            have hpq : p.2 = q.2 := by
             rcases q3 with ⟨e1, c1, k1, k2⟩ | ⟨e1, c1, x1, v1, k1, k2⟩ <;> rcases p3 with ⟨e2, c2, k3, k4⟩ | ⟨e2, c2, x2, v2, k3, k4⟩ <;> rw [k1] at k3 <;> cases k3 <;> rw [k2, k4]
            refine .inr (.inr ⟨by rw [hset, hpq], ?_⟩)
            rcases q3 with ⟨e1, c1, k1, k2⟩ | ⟨e1, c1, x1, v1, k1, k2⟩ <;> rw [k2] <;> rfl
          · simp only at q1
            rw [e, q1] at p1
            simp only [Option.some.injEq] at p1
            rcases q3 with ⟨e2, c2, k3, k4⟩ | ⟨e2, c2, x2, v2, k3, k4⟩ <;> rw [← p1, k3] at p2 <;> cases p2
        · rcases hpw with ⟨p1, p2⟩ | ⟨y, p1, p2, p3⟩ | ⟨p1, p2⟩
          · rw [← e] at q1
            exact .inl ⟨fun x hx => by rw [hset] at hx; simp only [Option.some.injEq] at hx; subst hx; exact p2, p1 _ q1⟩
          · unfold St.has at p1
            simp only at p1
            rw [e, q1] at p1
            simp only [Option.some.injEq] at p1
            rcases p3 with ⟨e2, c2, k3, k4⟩ | ⟨e2, c2, x2, v2, k3, k4⟩ <;> rw [p1, k3] at q2 <;> cases q2
          · rw [← e, p1] at q1
            refine .inr (.inr ⟨by rw [hset, ← q1], q2⟩)
      · have : σ.res.set p.1 (some p.2) = σ.res := List.set_eq_of_length_le (by omega)
        show WrOne K (σ.res.set p.1 (some p.2)) q
        rw [this]; exact hqw
    · show WrOne K (σ.res.set p.1 (some p.2)) q
      unfold WrOne FreezeOf St.has at hqw ⊢
      simp only [List.getElem?_set, if_neg e] at hqw ⊢
      exact hqw
theorem RM.run_congr {rs rs' : List (Option Res)} : ∀ {m : RM}, (∀ r ∈ m.reads rs, rs.getD r none = rs'.getD r none) → m.run rs' = m.run rs ∧ m.reads rs' = m.reads rs
  | .fail, _ => ⟨rfl, rfl⟩
  | .done _, _ => ⟨rfl, rfl⟩
  | .res r k, h => by
    have h0 := h r (by simp [RM.reads])
    unfold RM.run RM.reads
    rw [← h0]
    cases hr : rs.getD r none with
    | none => exact ⟨rfl, rfl⟩
    | some R =>
      have := RM.run_congr (rs := rs) (rs' := rs') (m := k R) fun q hq => h q (by unfold RM.reads; rw [hr]; simp [hq])
      exact ⟨this.1, by simp only [this.2]⟩
theorem eff_congr {G : X} {id : Nat} {arg arg' : Operand → SV} {p : Op} (h : ∀ x ∈ p.operands.toList, arg x = arg' x) : eff P sg G id arg p = eff P sg G id arg' p := by
  cases p with
  | build t ps =>
    have : (ps.toList.map fun p => (p.1, arg p.2)) = ps.toList.map fun p => (p.1, arg' p.2) := List.map_congr_left fun q hq => by rw [h q.2 (by simp [Op.operands]; exact ⟨q.1, by simpa using hq⟩)]
    simp only [eff, this]
  | buildSlice t n ps =>
    have : (ps.toList.map fun p => (p.1, arg p.2)) = ps.toList.map fun p => (p.1, arg' p.2) := List.map_congr_left fun q hq => by rw [h q.2 (by simp [Op.operands]; exact ⟨q.1, by simpa using hq⟩)]
    simp only [eff, this]
  | slice t x lo hi mx =>
    have h0 := h x (by simp [Op.operands])
    have h1 : lo.map arg = lo.map arg' := by cases lo with | none => rfl | some y => simp [h y (by simp [Op.operands])]
    have h2 : hi.map arg = hi.map arg' := by cases hi with | none => rfl | some y => simp [h y (by simp [Op.operands])]
    have h3 : mx.map arg = mx.map arg' := by cases mx with | none => rfl | some y => simp [h y (by simp [Op.operands])]
    simp only [eff, h0, h1, h2, h3]
  | call c =>
    have hm : c.args.toList.map arg = c.args.toList.map arg' := List.map_congr_left fun q hq => h q (by simp only [Op.operands, Call.operands, Array.toList_append, List.mem_append]; exact .inr hq)
    have hq : ∀ q ∈ c.args.toList, arg q = arg' q := fun q hq => h q (by simp only [Op.operands, Call.operands, Array.toList_append, List.mem_append]; exact .inr hq)
    unfold eff
    dsimp only
    split
    · split
      · rename_i x t hx ht
        rw [hq x (by rw [hx]; simp)]
      · rfl
    · rw [hm]
    · rw [hm]
    · split
      · rename_i s x t t' hx ht
        rw [hq x (by rw [hx]; simp), hq s (by rw [hx]; simp)]
      · rfl
    · rename_i x hx
      have hc : arg x = arg' x := h x (by simp only [Op.operands, Call.operands, hx, Array.toList_append, List.mem_append]; exact .inl (by simp))
      rw [hm, hc]
    · rename_i recv name hx
      have hc : arg recv = arg' recv := h recv (by simp only [Op.operands, Call.operands, hx, Array.toList_append, List.mem_append]; exact .inl (by simp))
      rw [hc]
    · rfl
  | makeInterface t x => simp only [eff, h x (by simp [Op.operands])]
  | typeAssert x t t' b => simp only [eff, h x (by simp [Op.operands])]
  | makeFunc fn first captured =>
    have h1 : first.toList.map arg = first.toList.map arg' := List.map_congr_left fun q hq => h q (by simp only [Op.operands, Array.toList_append, List.mem_append]; exact .inl hq)
    have h2 : captured.toList.map arg = captured.toList.map arg' := List.map_congr_left fun q hq => h q (by simp only [Op.operands, Array.toList_append, List.mem_append]; exact .inr hq)
    simp only [eff, h1, h2]
  | pick c x y => simp only [eff, h c (by simp [Op.operands]), h x (by simp [Op.operands]), h y (by simp [Op.operands])]
  | move x => simp only [eff, h x (by simp [Op.operands])]
  | assign x => simp only [eff, h x (by simp [Op.operands])]
  | box e x => simp only [eff, h x (by simp [Op.operands])]
  | load e x => simp only [eff, h x (by simp [Op.operands])]
  | nilCheck x => simp only [eff, h x (by simp [Op.operands])]
  | unOp o t x => simp only [eff, h x (by simp [Op.operands])]
  | convert s d x => simp only [eff, h x (by simp [Op.operands])]
  | fieldAddr s x f => simp only [eff, h x (by simp [Op.operands])]
  | field s x f => simp only [eff, h x (by simp [Op.operands])]
  | extract x i => simp only [eff, h x (by simp [Op.operands])]
  | store t x y => simp only [eff, h x (by simp [Op.operands]), h y (by simp [Op.operands])]
  | binOp o t x y t' => simp only [eff, h x (by simp [Op.operands]), h y (by simp [Op.operands])]
  | makeSlice t x y => simp only [eff, h x (by simp [Op.operands]), h y (by simp [Op.operands])]
  | indexAddr t x y => simp only [eff, h x (by simp [Op.operands]), h y (by simp [Op.operands])]
  | index t x y => simp only [eff, h x (by simp [Op.operands]), h y (by simp [Op.operands])]
  | _ => rfl
end
end Go.RV
namespace Go.RV
open Go.RowKit
section
variable {P : Program} {K : Ctx} {σ : St} {gh : Gh} {a : Act} {w : World} {o : Oper} {sg : FuncId → Option Sig}
theorem getD_none {α : Type} (l : Array α) (n : Nat) (d : α) (h : l[n]? = none) : l.getD n d = d := by
  rw [Array.getD_eq_getD_getElem?, h]; rfl
theorem guard_ok (h : Inv K σ gh a w) {ops : Array Oper} {G : X} (hg : guardOf ops.toList σ o = some G) : Region.wanted o (yielded ops a.tmps) = true ↔ (G.d K.Φ K.ρ).bool = true := by
  unfold guardOf at hg
  unfold Region.wanted
  cases hgd : o.guard with
  | none =>
    rw [hgd] at hg
    simp only [Option.some.injEq] at hg
    subst hg
    simp [tt, X.d]
  | some g =>
    obtain ⟨j, want⟩ := g
    rw [hgd] at hg
    simp only at hg ⊢
    rw [Array.getElem?_toList] at hg
    cases hd : (ops[j]?).bind (·.dst) with
    | none =>
      rw [hd] at hg
      simp only [Option.some.injEq] at hg
      subst hg
      have : yielded ops a.tmps j = none := by unfold yielded; rw [hd]; rfl
      rw [this]
      simp [X.d]
    | some d =>
      rw [hd] at hg
      simp only at hg
      have hslot : SV.rel K.Φ K.ρ w gh (σ.slots.getD d .und) (a.tmps.getD d undef) := h.opd (.tmp d)
      have hval : ∀ b, a.tmps.getD d undef = .bool b → yielded ops a.tmps j = some b := by
        intro b hb
        unfold yielded
        rw [hd]
        simp only [Option.bind_some]
        cases hx : a.tmps[d]? with
        | none => rw [getD_none _ _ _ hx] at hb; simp [undef] at hb
        | some v =>
          rw [Array.getD_eq_getD_getElem?, hx] at hb
          simp only [Option.getD_some] at hb
          subst hb
          rfl
      have hnot : a.tmps.getD d undef = undef → yielded ops a.tmps j = none := by
        intro hb
        unfold yielded
        rw [hd]
        simp only [Option.bind_some]
        cases hx : a.tmps[d]? with
        | none => rfl
        | some v =>
          rw [Array.getD_eq_getD_getElem?, hx] at hb
          simp only [Option.getD_some] at hb
          subst hb
          rfl
      generalize σ.slots.getD d .und = s at *
      unfold guardX at hg
      split at hg
      · rename_i b
        simp only [Option.some.injEq] at hg
        subst hg
        obtain ⟨hv, _⟩ := rep_bool hslot
        rw [hval _ hv]
        simp only [X.d, D.bool_b, beq_iff_eq, Option.some.injEq]
      · rename_i e _
        simp only [Option.some.injEq] at hg
        subst hg
        obtain ⟨hv, _⟩ := rep_bool hslot
        rw [hval _ hv]
        cases want
        · simp [X.d_notX]
        · simp
      · rename_i g e
        simp only [Option.some.injEq] at hg
        subst hg
        unfold SV.rel at hslot
        rw [X.d_andX]
        split at hslot
        · rename_i hgt
          obtain ⟨hv, _⟩ := rep_bool (show Rep w gh.F .bool _ _ from hslot)
          rw [hval _ hv, hgt]
          cases want
          · simp [X.d_notX]
          · simp
        · rename_i hgt
          rw [hnot hslot]
          simp [hgt]
      · simp only [Option.some.injEq] at hg
        subst hg
        rw [hnot hslot]
        simp [X.d]
      · cases hg
def NdOk (K : Ctx) (pre : FuncId → List D → Prop) (nd : List (X × Nd)) : Prop := ∀ n ∈ nd, (n.1.d K.Φ K.ρ).bool = true → n.2.holds pre K.Φ K.ρ
theorem isFf_false {g : X} (h : isFf g = true) : (g.d K.Φ K.ρ).bool = false := by
  cases g <;> simp [isFf] at h
  subst h; rfl
theorem stepOp_ok (h : Inv K σ gh a w) {ops : Array Oper} {id : Nat} {σ1 : St} {nd : List (X × Nd)} (hs : stepOp P sg K.wok ops.toList o id σ = some (σ1, nd)) {pre : FuncId → List D → Prop}
    (hM : ∀ f S, sg f = some S → MeetsAt P f S pre K.Φ) (hn : NdOk K pre nd) {Kn : Act → World → Prop} {Q : Exit → Act → World → Prop} (hk : ∀ gh' a' w', Inv K σ1 gh' a' w' → Kn a' w') :
    if Region.wanted o (yielded ops a.tmps) then o.wp P a w Kn Q ∨ (o.asks P a w ∧ LetsOut Q) else Kn (a.put o.dst undef) w := by
  unfold stepOp at hs
  split at hs
  · cases hs
  · rename_i G hg
    have hgd := guard_ok h hg
    split at hs
    · cases hs
    · rename_i hc
      simp only [Bool.or_eq_true, Bool.not_eq_true', not_or, Bool.not_eq_false] at hc
      obtain ⟨hd, hf⟩ := hc
      have hid : ∀ i, i < makes sg o.op → σ.res[id + i]? = some none := by
        intro i hi
        unfold freshOk at hf
        have hf := List.all_eq_true.1 hf i (by simpa using hi)
        split at hf
        · assumption
        · cases hf
      split at hs
      · rename_i hff
        simp only [Option.some.injEq, Prod.mk.injEq] at hs
        obtain ⟨rfl, rfl⟩ := hs
        have hw : ¬ Region.wanted o (yielded ops a.tmps) = true := by rw [hgd, isFf_false hff]; simp
        rw [if_neg hw]
        exact hk gh _ _ (h.put (s := .und) o.dst rfl hd)
      · split at hs
        · cases hs
        · rename_i eo he
          simp only [Option.some.injEq, Prod.mk.injEq] at hs
          obtain ⟨rfl, rfl⟩ := hs
          split
          · rename_i hw
            have hG := hgd.1 hw
            refine .inl (eff_ok h hG hid hM he (fun n hnm => hn (G, n) (by simp [hnm]) hG) Kn Q fun v w' ⟨gh', hI, hrel⟩ => ?_)
            refine hk gh' _ _ (hI.put (s := if isTt G then eo.val else .grd G eo.val) o.dst ?_ hd)
            split
            · exact hrel
            · unfold SV.rel; rw [if_pos hG]; exact hrel
          · rename_i hw
            have hG : ¬ (G.d K.Φ K.ρ).bool = true := fun hG => hw (hgd.2 hG)
            obtain ⟨gh', hI⟩ := h.offs (eff_off hG hid (fun _ => rfl) he)
            refine hk gh' _ _ (hI.put (s := if isTt G then eo.val else .grd G eo.val) o.dst ?_ hd)
            split
            · rename_i ht; exact absurd (isTt_sound ht) hG
            · unfold SV.rel; rw [if_neg hG]
theorem Inv.addRes (h : Inv K σ gh a w) (n : Nat) : Inv K ⟨σ.slots, σ.res ++ List.replicate n none⟩ gh a w := by
  have e : ∀ r x, (⟨σ.slots, σ.res ++ List.replicate n none⟩ : St).has r x ↔ σ.has r x := by
    intro r x
    unfold St.has
    by_cases hr : r < σ.res.length
    · rw [List.getElem?_append_left hr]
    · rw [List.getElem?_append_right (by omega), List.getElem?_replicate]
      have : σ.res[r]? = none := by simp; omega
      rw [this]
      split <;> simp
  refine ⟨h.defers, h.size, h.slot, h.kept, h.os, h.tape, h.output, h.grow, h.pr, h.prlt, h.Flt, fun r b hb => ?_, fun r hr => ?_, fun r x hx => h.res r x ((e r x).1 hx), fun r x b hx => h.own r x b ((e r x).1 hx),
    fun r x r' x' b hx hon hx' => h.inj r x r' x' b ((e r x).1 hx) hon ((e r' x').1 hx'), h.le0, h.Fpr⟩
  · obtain ⟨x, hx, hon⟩ := h.beta r b hb; exact ⟨x, (e r x).2 hx, hon⟩
  · obtain ⟨x, hx, hon⟩ := h.vr0 r hr; exact ⟨x, (e r x).2 hx, hon⟩
structure It where
  ix : Nat
  o : Oper
  id : Nat
  f : Foot
def Runs (P : Program) (sg : FuncId → Option Sig) (wok : Nat → Bool) (ops : List Oper) : List It → St → St → List (X × Nd) → Prop
  | [], σ, σ', nd => σ = σ' ∧ nd = []
  | it :: rest, σ, σ', nd => ∃ σ1 nd1 nd2, stepOp P sg wok ops it.o it.id σ = some (σ1, nd1) ∧ footOf P sg ops it.o it.id σ = it.f ∧ nd = nd1 ++ nd2 ∧ Runs P sg wok ops rest σ1 σ' nd2
def stepEff (P : Program) (sg : FuncId → Option Sig) (wok : Nat → Bool) (ops : List Oper) (o : Oper) (id : Nat) (σ : St) : Option (SV × List (Nat × Res) × List (X × Nd)) := match guardOf ops σ o with
  | none => none
  | some G => if !dstOk wok o.dst || !freshOk sg o id σ.res then none else
    if isFf G then some (.und, [], []) else
    match (eff P sg G id (fun x => strip G (σ.opd x)) o.op).run σ.res with
    | none => none
    | some eo => some (if isTt G then eo.val else .grd G eo.val, eo.wr, eo.nd.map fun n => (G, n))
theorem stepOp_eff {wok : Nat → Bool} {ops : List Oper} {id : Nat} : stepOp P sg wok ops o id σ = (stepEff P sg wok ops o id σ).map fun x => (⟨putSlot σ.slots o.dst x.1, setAll σ.res x.2.1⟩, x.2.2) := by
  unfold stepOp stepEff
  cases hg : guardOf ops σ o with
  | none => rfl
  | some G =>
    simp only
    cases h1 : (!dstOk wok o.dst || !freshOk sg o id σ.res) with
    | true => rfl
    | false =>
      simp only [Bool.false_eq_true, if_false]
      cases h2 : isFf G with
      | true => rfl
      | false =>
        simp only [Bool.false_eq_true, if_false]
        cases (eff P sg G id (fun x => strip G (σ.opd x)) o.op).run σ.res <;> rfl
theorem footOf_none {ops : List Oper} {id : Nat} (hg : guardOf ops σ o = none) : footOf P sg ops o id σ = ⟨tmpsOf o.op.operands.toList ++ guardTmp ops o, o.dst.toList, (List.range (makes sg o.op)).map (id + ·), []⟩ := by
  simp only [footOf, hg]
theorem footOf_ff {ops : List Oper} {id : Nat} {G : X} (hg : guardOf ops σ o = some G) (hff : isFf G = true) : footOf P sg ops o id σ = ⟨tmpsOf o.op.operands.toList ++ guardTmp ops o, o.dst.toList, (List.range (makes sg o.op)).map (id + ·), []⟩ := by
  simp only [footOf, hg, hff, if_true]
theorem footOf_some {ops : List Oper} {id : Nat} {G : X} (hg : guardOf ops σ o = some G) (hff : isFf G = false) : footOf P sg ops o id σ = ⟨tmpsOf o.op.operands.toList ++ guardTmp ops o, o.dst.toList,
    ((List.range (makes sg o.op)).map (id + ·)) ++ (eff P sg G id (fun x => strip G (σ.opd x)) o.op).reads σ.res, match (eff P sg G id (fun x => strip G (σ.opd x)) o.op).run σ.res with | some eo => eo.wr.map (·.1) | none => []⟩ := by
  simp only [footOf, hg, hff, Bool.false_eq_true, if_false]
  rfl
theorem footOf_rw {wok : Nat → Bool} {ops : List Oper} {id : Nat} {x : SV × List (Nat × Res) × List (X × Nd)} (h : stepEff P sg wok ops o id σ = some x) : (footOf P sg ops o id σ).rw = x.2.1.map (·.1) ∧ (footOf P sg ops o id σ).sw = o.dst.toList := by
  unfold stepEff at h
  split at h
  · cases h
  · rename_i G hg
    split at h
    · cases h
    · split at h
      · rename_i hff
        simp only [Option.some.injEq] at h
        subst h
        rw [footOf_ff hg hff]
        exact ⟨rfl, rfl⟩
      · rename_i hff
        split at h
        · cases h
        · rename_i eo he
          simp only [Option.some.injEq] at h
          subst h
          rw [footOf_some hg (by simpa using hff), he]
          exact ⟨rfl, rfl⟩
theorem step_congr {wok : Nat → Bool} {ops : List Oper} {id : Nat} {σ2 : St} (hs : ∀ t ∈ (footOf P sg ops o id σ).sr, σ2.slots.getD t .und = σ.slots.getD t .und) (hr : ∀ r ∈ (footOf P sg ops o id σ).rr, σ2.res[r]? = σ.res[r]?) :
    stepEff P sg wok ops o id σ2 = stepEff P sg wok ops o id σ ∧ footOf P sg ops o id σ2 = footOf P sg ops o id σ := by
  have hsr : (footOf P sg ops o id σ).sr = tmpsOf o.op.operands.toList ++ guardTmp ops o := by
    cases hg : guardOf ops σ o with
    | none => rw [footOf_none hg]
    | some G => cases hff : isFf G with
      | true => rw [footOf_ff hg hff]
      | false => rw [footOf_some hg hff]
  rw [hsr] at hs
  have hguard : guardOf ops σ2 o = guardOf ops σ o := by
    unfold guardOf
    cases hg : o.guard with
    | none => rfl
    | some g =>
      obtain ⟨j, want⟩ := g
      simp only
      cases hd : (ops[j]?).bind (·.dst) with
      | none => rfl
      | some d =>
        simp only
        rw [hs d (by simp [guardTmp, hg, hd])]
  have hopd : ∀ x ∈ o.op.operands.toList, σ2.opd x = σ.opd x := by
    intro x hx
    cases x with
    | tmp t => exact hs t (List.mem_append_left _ (List.mem_filterMap.2 ⟨.tmp t, hx, rfl⟩))
    | _ => rfl
  have hown : ∀ r ∈ ((List.range (makes sg o.op)).map (id + ·)), σ2.res[r]? = σ.res[r]? := by
    intro r hm
    refine hr r ?_
    cases hg : guardOf ops σ o with
    | none => rw [footOf_none hg]; exact hm
    | some G => cases hff : isFf G with
      | true => rw [footOf_ff hg hff]; exact hm
      | false => rw [footOf_some hg hff]; exact List.mem_append_left _ hm
  have hfresh : freshOk sg o id σ2.res = freshOk sg o id σ.res := by
    unfold freshOk
    have e : ∀ l : List Nat, (∀ i ∈ l, i < makes sg o.op) → (l.all fun i => match σ2.res[id + i]? with | some none => true | _ => false) = (l.all fun i => match σ.res[id + i]? with | some none => true | _ => false) := by
      intro l
      induction l with
      | nil => intro _; rfl
      | cons i l ih =>
        intro hl
        rw [List.all_cons, List.all_cons, ih fun j hj => hl j (by simp [hj]), hown (id + i) (List.mem_map.2 ⟨i, by simpa using hl i (by simp), rfl⟩)]
    exact e _ fun i hi => by simpa using hi
  unfold stepEff footOf
  rw [hguard, hfresh]
  cases hg : guardOf ops σ o with
  | none => exact ⟨rfl, rfl⟩
  | some G =>
    have he : eff P sg G id (fun x => strip G (σ2.opd x)) o.op = eff P sg G id (fun x => strip G (σ.opd x)) o.op := eff_congr fun x hx => by rw [hopd x hx]
    simp only
    rw [he]
    cases hff : isFf G with
    | true => simp
    | false =>
      have hreads : ∀ r ∈ (eff P sg G id (fun x => strip G (σ.opd x)) o.op).reads σ.res, σ.res.getD r none = σ2.res.getD r none := by
        intro r hm
        have := hr r (by rw [footOf_some hg hff]; exact List.mem_append_right _ hm)
        simp only [List.getD, this]
      obtain ⟨h1, h2⟩ := RM.run_congr (rs' := σ2.res) hreads
      rw [h1, h2]
      exact ⟨rfl, rfl⟩
theorem setAll_other : ∀ {wr : List (Nat × Res)} {l : List (Option Res)} {r : Nat}, r ∉ wr.map (·.1) → (setAll l wr)[r]? = l[r]?
  | [], _, _, _ => rfl
  | p :: wr, l, r, h => by
    simp only [List.map_cons, List.mem_cons, not_or] at h
    show (setAll (l.set p.1 (some p.2)) wr)[r]? = l[r]?
    rw [setAll_other h.2, List.getElem?_set, if_neg (fun e => h.1 e.symm)]
theorem setAll_set : ∀ {wr : List (Nat × Res)} {l : List (Option Res)} {r : Nat} {x : Option Res}, r ∉ wr.map (·.1) → setAll (l.set r x) wr = (setAll l wr).set r x
  | [], _, _, _, _ => rfl
  | p :: wr, l, r, x, h => by
    simp only [List.map_cons, List.mem_cons, not_or] at h
    show setAll ((l.set r x).set p.1 (some p.2)) wr = (setAll (l.set p.1 (some p.2)) wr).set r x
    rw [List.set_comm _ _ h.1, setAll_set h.2]
theorem setAll_comm : ∀ {wr wr' : List (Nat × Res)} {l : List (Option Res)}, (∀ r ∈ wr.map (·.1), r ∉ wr'.map (·.1)) → setAll (setAll l wr) wr' = setAll (setAll l wr') wr
  | [], _, _, _ => rfl
  | p :: wr, wr', l, h => by
    show setAll (setAll (l.set p.1 (some p.2)) wr) wr' = setAll ((setAll l wr').set p.1 (some p.2)) wr
    rw [setAll_comm (fun r hr => h r (by simp only [List.map_cons, List.mem_cons]; exact .inr hr)), setAll_set (h p.1 (by simp))]
theorem putSlot_other {l : List SV} {dst : Option Tmp} {v : SV} {t : Nat} (h : t ∉ dst.toList) : (putSlot l dst v).getD t .und = l.getD t .und := by
  cases dst with
  | none => rfl
  | some d =>
    simp only [Option.toList_some, List.mem_singleton] at h
    simp only [putSlot, List.getD, List.getElem?_set]
    rw [if_neg (fun e => h e.symm)]
theorem disj_spec {l m : List Nat} (h : disj l m = true) : ∀ x ∈ l, x ∉ m := by
  intro x hx
  have := List.all_eq_true.1 h x hx
  simpa using this
theorem runs_swap {wok : Nat → Bool} {ops : List Oper} {x y : It} {rest : List It} {σ' : St} {nd : List (X × Nd)} (h : Runs P sg wok ops (x :: y :: rest) σ σ' nd) (hi : indep x.f y.f = true) :
    ∃ nd', Runs P sg wok ops (y :: x :: rest) σ σ' nd' ∧ ∀ n, n ∈ nd' ↔ n ∈ nd := by
  obtain ⟨σ1, nd1, nd2, h1, f1, rfl, σ2, nd3, nd4, h2, f2, rfl, h3⟩ := h
  simp only [indep, Bool.and_eq_true] at hi
  obtain ⟨⟨⟨⟨⟨i1, i2⟩, i3⟩, i4⟩, i5⟩, i6⟩ := hi
  have i1 := disj_spec i1; have i2 := disj_spec i2; have i3 := disj_spec i3; have i4 := disj_spec i4; have i5 := disj_spec i5; have i6 := disj_spec i6
  rw [stepOp_eff] at h1 h2
  cases hx : stepEff P sg wok ops x.o x.id σ with
  | none => rw [hx] at h1; cases h1
  | some ex =>
    rw [hx] at h1
    simp only [Option.map_some, Option.some.injEq, Prod.mk.injEq] at h1
    obtain ⟨rfl, rfl⟩ := h1
    cases hy : stepEff P sg wok ops y.o y.id ⟨putSlot σ.slots x.o.dst ex.1, setAll σ.res ex.2.1⟩ with
    | none => rw [hy] at h2; cases h2
    | some ey =>
      rw [hy] at h2
      simp only [Option.map_some, Option.some.injEq, Prod.mk.injEq] at h2
      obtain ⟨rfl, rfl⟩ := h2
      obtain ⟨rx, sx⟩ := footOf_rw hx
      obtain ⟨ry, sy⟩ := footOf_rw hy
      rw [f1] at rx sx
      rw [f2] at ry sy
      have cy := step_congr (P := P) (sg := sg) (wok := wok) (ops := ops) (o := y.o) (id := y.id) (σ := ⟨putSlot σ.slots x.o.dst ex.1, setAll σ.res ex.2.1⟩) (σ2 := σ)
        (fun t ht => by rw [f2] at ht; exact (putSlot_other fun hm => i1 t (by rw [sx]; exact hm) ht).symm)
        (fun r hr => by rw [f2] at hr; exact (setAll_other fun hm => i4 r (by rw [rx]; exact hm) hr).symm)
      have cx := step_congr (P := P) (sg := sg) (wok := wok) (ops := ops) (o := x.o) (id := x.id) (σ := σ) (σ2 := ⟨putSlot σ.slots y.o.dst ey.1, setAll σ.res ey.2.1⟩)
        (fun t ht => by rw [f1] at ht; exact putSlot_other fun hm => i3 t (by rw [sy]; exact hm) ht)
        (fun r hr => by rw [f1] at hr; exact setAll_other fun hm => i6 r (by rw [ry]; exact hm) hr)
      rw [hy, f2] at cy
      rw [hx, f1] at cx
      refine ⟨ey.2.2 ++ (ex.2.2 ++ nd4), ⟨_, _, _, by rw [stepOp_eff, cy.1]; rfl, cy.2, rfl, _, _, _, by rw [stepOp_eff, cx.1]; rfl, cx.2, rfl, ?_⟩, fun n => by simp only [List.mem_append]; constructor <;> (intro h; rcases h with h | h | h) <;> simp [h]⟩
      have e1 : putSlot (putSlot σ.slots y.o.dst ey.1) x.o.dst ex.1 = putSlot (putSlot σ.slots x.o.dst ex.1) y.o.dst ey.1 := by
        cases hdx : x.o.dst with
        | none => rfl
        | some dx =>
          cases hdy : y.o.dst with
          | none => rfl
          | some dy =>
            have : dx ≠ dy := fun e => i2 dx (by rw [sx, hdx]; simp) (by rw [sy, hdy]; simp [e])
            exact List.set_comm _ _ (Ne.symm this)
      have e2 : setAll (setAll σ.res ey.2.1) ex.2.1 = setAll (setAll σ.res ex.2.1) ey.2.1 := (setAll_comm fun r hr hr' => i5 r (by rw [rx]; exact hr) (by rw [ry]; exact hr')).symm
      rw [e1, e2]
      exact h3
theorem runs_front {wok : Nat → Bool} {ops : List Oper} {x : It} {post : List It} {σ' : St} : ∀ {pre : List It} {σ : St} {nd : List (X × Nd)}, Runs P sg wok ops (pre ++ x :: post) σ σ' nd → (∀ p ∈ pre, indep p.f x.f = true) →
    ∃ nd', Runs P sg wok ops (x :: (pre ++ post)) σ σ' nd' ∧ ∀ n, n ∈ nd' ↔ n ∈ nd
  | [], σ, nd, h, _ => ⟨nd, h, fun _ => Iff.rfl⟩
  | p :: pre, σ, nd, h, hi => by
    obtain ⟨σ1, nd1, nd2, h1, f1, rfl, h2⟩ := h
    obtain ⟨nd', h3, hm⟩ := runs_front h2 (fun q hq => hi q (by simp [hq]))
    obtain ⟨nd'', h4, hm'⟩ := runs_swap (x := p) (y := x) ⟨σ1, nd1, nd', h1, f1, rfl, h3⟩ (hi p (by simp))
    exact ⟨nd'', h4, fun n => by rw [hm' n, List.mem_append, List.mem_append, hm n]⟩
theorem lex_ok {ops : Array Oper} {pre : FuncId → List D → Prop} (hM : ∀ f S, sg f = some S → MeetsAt P f S pre K.Φ) {Q : Exit → Act → World → Prop} {σ' : St} (hQ : ∀ gh a w, Inv K σ' gh a w → Q .normal a w) :
    ∀ (todo : List It) {σ : St} {gh : Gh} {a : Act} {w : World} {nd : List (X × Nd)}, Inv K σ gh a w → Runs P sg K.wok ops.toList todo σ σ' nd → NdOk K pre nd → (∀ it ∈ todo, ops[it.ix]? = some it.o) →
    wpOps P ops Q (todo.map (·.ix)) a w
  | [], σ, gh, a, w, nd, h, hr, hn, ho => by
    obtain ⟨rfl, _⟩ := hr
    exact hQ gh a w h
  | it :: todo, σ, gh, a, w, nd, h, hr, hn, ho => by
    obtain ⟨σ1, nd1, nd2, h1, f1, rfl, h2⟩ := hr
    simp only [List.map_cons, wpOps, ho it (by simp)]
    exact stepOp_ok h h1 hM (fun n hm => hn n (by simp [hm])) fun gh' a' w' h' => lex_ok hM hQ todo h' h2 (fun n hm => hn n (by simp [hm])) (fun q hq => ho q (by simp [hq]))
theorem mem_preds {o : Oper} {p : Nat} (h : p ∈ preds o) : ∃ e ∈ o.after.toList, Region.binds .any e = true ∧ e.on = p := by
  unfold preds at h
  obtain ⟨e, he, h⟩ := List.mem_filterMap.1 h
  split at h
  · rename_i hb
    simp only [Option.some.injEq] at h
    exact ⟨e, he, hb, h⟩
  · cases h
theorem reachB_sound {ops : List Oper} {L : Nat → Prop} (hC : ∀ k o, ops[k]? = some o → L k → ∀ p ∈ preds o, L p) {i : Nat} : ∀ (k : Nat) {S : List Nat}, reachB ops i k S = true → (∀ s ∈ S, L s) → L i
  | 0, S, h, hS => hS i (by simpa [reachB] using h)
  | k + 1, S, h, hS => by
    simp only [reachB, Bool.or_eq_true] at h
    rcases h with h | h
    · exact hS i (by simpa using h)
    · refine reachB_sound hC k h fun s hs => ?_
      split at hs
      · rename_i hk
        split at hs
        · rename_i o ho
          rcases List.mem_append.1 hs with hs | hs
          · exact hC k o ho (hS k (by simpa using hk)) s hs
          · exact hS s hs
        · exact hS s hs
      · exact hS s hs
theorem any_ok {ops : Array Oper} {pre : FuncId → List D → Prop} (hM : ∀ f S, sg f = some S → MeetsAt P f S pre K.Φ) {Q : Exit → Act → World → Prop} {σ' : St} (hQ : ∀ gh a w, Inv K σ' gh a w → Q .normal a w) :
    ∀ (fuel : Nat) {todo : List It} {listed : Array Bool} {σ : St} {gh : Gh} {a : Act} {w : World} {nd : List (X × Nd)}, todo.length = fuel → Inv K σ gh a w → Runs P sg K.wok ops.toList todo σ σ' nd → NdOk K pre nd → (∀ it ∈ todo, ops[it.ix]? = some it.o) →
    List.Pairwise (fun x y => x.ix < y.ix ∧ (waits y.o x.ix || indep x.f y.f || before ops.toList y.o x.ix) = true) todo → (∀ it ∈ todo, ∀ e ∈ it.o.after.toList, Region.binds .any e = true → e.on < it.ix) →
    (∀ i, listed.getD i true = false ↔ ∃ it ∈ todo, it.ix = i) → listed.size = ops.size → (∀ k o, ops.toList[k]? = some o → listed.getD k false = true → ∀ p ∈ preds o, listed.getD p false = true) → wpAny P .any ops Q fuel listed a w
  | fuel, todo, listed, σ, gh, a, w, nd, hl, h, hr, hn, ho, hp, hA, hL, hsz, hC => by
    have hready : ∀ i, i ∈ Region.ready .any ops listed ↔ (i < ops.size ∧ listed.getD i true = false ∧ ∃ o, ops[i]? = some o ∧ ∀ e ∈ o.after.toList, Region.binds .any e = true → listed.getD e.on false = true) := by
      intro i
      simp only [Region.ready, List.mem_filter, List.mem_range, Bool.and_eq_true, Bool.not_eq_true']
      refine and_congr_right fun hi => and_congr_right fun _ => ?_
      have : ops[i]? = some ops[i] := by simp [hi]
      rw [this]
      simp only [Option.map_some, Option.getD_some, Option.some.injEq, exists_eq_left']
      rw [Array.all_eq_true_iff_forall_mem]
      simp only [Bool.or_eq_true, Bool.not_eq_true', Array.mem_def]
      constructor
      · intro hh e he hb; rcases hh e he with h1 | h1
        · rw [h1] at hb; cases hb
        · exact h1
      · intro hh e he; cases hb : Region.binds .any e
        · exact .inl rfl
        · exact .inr (hh e he hb)
    have hbool : ∀ i, i < ops.size → listed.getD i false = listed.getD i true := by
      intro i hi
      rw [← hsz] at hi
      simp [Array.getD, hi]
    cases fuel with
    | zero =>
      have : todo = [] := List.length_eq_zero_iff.1 hl
      subst this
      obtain ⟨rfl, _⟩ := hr
      refine ⟨?_, hQ gh a w h⟩
      rw [List.eq_nil_iff_forall_not_mem]
      intro i hi
      obtain ⟨it, hit, _⟩ := (hL i).1 ((hready i).1 hi).2.1
      cases hit
    | succ fuel =>
      refine ⟨fun hnil => ?_, fun i hi => ?_⟩
      · exfalso
        match todo, hl with
        | it :: rest, hl =>
        have hlt : it.ix < ops.size := (Array.getElem?_eq_some_iff.1 (ho it (by simp))).1
        have : it.ix ∈ Region.ready .any ops listed := (hready _).2 ⟨hlt, (hL _).2 ⟨it, by simp, rfl⟩, it.o, ho it (by simp), fun e he hb => by
          have h1 := hA it (by simp) e he hb
          rw [hbool _ (by omega)]
          cases hh : listed.getD e.on true with
          | true => rfl
          | false =>
            obtain ⟨it', hm, e'⟩ := (hL _).1 hh
            cases hm with
            | head => omega
            | tail _ hm =>
              have := (List.pairwise_cons.1 hp).1 it' hm
              omega⟩
        rw [hnil] at this
        cases this
      · obtain ⟨hlt, hun, o, hoi, hedge⟩ := (hready i).1 hi
        obtain ⟨it, hm, rfl⟩ := (hL i).1 hun
        obtain ⟨pre', post, rfl⟩ := List.append_of_mem hm
        have hio := ho it hm
        rw [hoi] at hio
        simp only [Option.some.injEq] at hio
        subst hio
        have hpw := List.pairwise_append.1 hp
        have hind : ∀ p ∈ pre', indep p.f it.f = true := by
          intro p hp'
          obtain ⟨hlt', hw⟩ := hpw.2.2 p hp' it (by simp)
          simp only [Bool.or_eq_true] at hw
          rcases hw with (hw | hw) | hw
          · exfalso
            unfold waits at hw
            rw [List.any_eq_true] at hw
            obtain ⟨e, he, hb⟩ := hw
            simp only [Bool.and_eq_true, beq_iff_eq] at hb
            have h1 := hedge e he hb.1
            rw [hb.2, hbool _ (by omega)] at h1
            have h2 := (hL p.ix).2 ⟨p, by simp [hp'], rfl⟩
            rw [h1] at h2
            cases h2
          · exact hw
          · exfalso
            have h1 : listed.getD p.ix false = true := reachB_sound (L := fun k => listed.getD k false = true) hC _ hw fun s hs => by
              obtain ⟨e, he, hb, rfl⟩ := mem_preds hs
              exact hedge e he hb
            rw [hbool _ (by omega)] at h1
            have h2 := (hL p.ix).2 ⟨p, by simp [hp'], rfl⟩
            rw [h1] at h2
            cases h2
        obtain ⟨nd', hr', hmem⟩ := runs_front hr hind
        obtain ⟨σ1, nd1, nd2, h1, f1, rfl, h2⟩ := hr'
        have hn' : NdOk K pre (nd1 ++ nd2) := fun n hm => hn n ((hmem n).1 hm)
        have hlen : (pre' ++ post).length = fuel := by simp at hl ⊢; omega
        have hsub : List.Sublist (pre' ++ post) (pre' ++ it :: post) := List.Sublist.append (List.Sublist.refl _) (List.sublist_cons_self _ _)
        have hne : ∀ q ∈ pre' ++ post, q.ix ≠ it.ix := by
          intro q hq
          rcases List.mem_append.1 hq with hq | hq
          · have := (hpw.2.2 q hq it (by simp)).1; omega
          · have := ((List.pairwise_cons.1 hpw.2.1).1 q hq).1; omega
        have hL' : ∀ j, (listed.setIfInBounds it.ix true).getD j true = false ↔ ∃ q ∈ pre' ++ post, q.ix = j := by
          intro j
          by_cases e : it.ix = j
          · subst e
            have : (listed.setIfInBounds it.ix true).getD it.ix true = true := by
              simp [Array.getD, hsz, hlt]
            rw [this]
            constructor
            · intro hh; cases hh
            · rintro ⟨q, hq, hq'⟩; exact absurd hq' (hne q hq)
          · have : (listed.setIfInBounds it.ix true).getD j true = listed.getD j true := by
              simp only [Array.getD_eq_getD_getElem?, Array.getElem?_setIfInBounds, if_neg e]
            rw [this, hL j]
            constructor
            · rintro ⟨q, hq, rfl⟩
              rcases List.mem_append.1 hq with hq | hq
              · exact ⟨q, by simp [hq], rfl⟩
              · cases hq with
                | head => exact absurd rfl e
                | tail _ hq => exact ⟨q, List.mem_append_right _ hq, rfl⟩
            · rintro ⟨q, hq, rfl⟩; exact ⟨q, hsub.mem hq, rfl⟩
        have hup : ∀ j, listed.getD j false = true → (listed.setIfInBounds it.ix true).getD j false = true := by
          intro j hj
          by_cases e : it.ix = j
          · subst e; simp [Array.getD, hsz, hlt]
          · simp only [Array.getD_eq_getD_getElem?, Array.getElem?_setIfInBounds, if_neg e] at hj ⊢; exact hj
        have hC' : ∀ k o, ops.toList[k]? = some o → (listed.setIfInBounds it.ix true).getD k false = true → ∀ p ∈ preds o, (listed.setIfInBounds it.ix true).getD p false = true := by
          intro k o hk hkl p hp9
          by_cases e : it.ix = k
          · subst e
            have ho9 : o = it.o := by
              have h9 := ho it hm
              rw [Array.getElem?_toList] at hk
              rw [hk] at h9
              exact Option.some.inj h9
            subst ho9
            obtain ⟨e, he, hb, rfl⟩ := mem_preds hp9
            exact hup _ (hedge e he hb)
          · refine hup _ (hC k o hk ?_ p hp9)
            simp only [Array.getD_eq_getD_getElem?, Array.getElem?_setIfInBounds, if_neg e] at hkl ⊢; exact hkl
        have := stepOp_ok (Q := Q) (Kn := wpAny P .any ops Q fuel (listed.setIfInBounds it.ix true)) h h1 hM (fun n hm => hn' n (by simp [hm])) fun gh' a' w' h' =>
          any_ok hM hQ fuel hlen h' h2 (fun n hm => hn' n (by simp [hm])) (fun q hq => ho q (hsub.mem hq)) (hp.sublist hsub) (fun q hq => hA q (hsub.mem hq)) hL' (by simpa using hsz) hC'
        unfold wpOp
        rw [hoi]
        exact this
def its : Nat → List (Oper × Nat) → List Foot → List It
  | i, (o, id) :: r, f :: fs => ⟨i, o, id, f⟩ :: its (i + 1) r fs
  | _, _, _ => []
theorem runOps_runs {wok : Nat → Bool} {ops : List Oper} : ∀ {l : List (Oper × Nat)} {i : Nat} {σ σ' : St} {nd : List (X × Nd)} {fs : List Foot}, runOps P sg wok ops l σ = some (σ', nd, fs) → Runs P sg wok ops (its i l fs) σ σ' nd ∧ fs.length = l.length
  | [], i, σ, σ', nd, fs, h => by
    simp only [runOps, Option.some.injEq, Prod.mk.injEq] at h
    obtain ⟨rfl, rfl, rfl⟩ := h
    exact ⟨⟨rfl, rfl⟩, rfl⟩
  | (o, id) :: l, i, σ, σ', nd, fs, h => by
    unfold runOps at h
    split at h
    · cases h
    · rename_i σ1 nd1 h1
      split at h
      · cases h
      · rename_i σ2 nd2 fs2 h2
        simp only [Option.some.injEq, Prod.mk.injEq] at h
        obtain ⟨rfl, rfl, rfl⟩ := h
        obtain ⟨r1, r2⟩ := runOps_runs (i := i + 1) h2
        exact ⟨⟨σ1, nd1, nd2, h1, rfl, rfl, r1⟩, by simp [r2]⟩
theorem number_fst : ∀ (l : List Oper) (k : Nat), (number sg k l).map (·.1) = l
  | [], _ => rfl
  | o :: l, k => by simp [number, number_fst l]
theorem its_spec : ∀ {l : List (Oper × Nat)} {fs : List Foot} {i : Nat}, fs.length = l.length → (its i l fs).map (·.ix) = List.range' i l.length ∧ (its i l fs).map (fun it => (it.o, it.f)) = (l.map (·.1)).zip fs ∧ ∀ it ∈ its i l fs, i ≤ it.ix ∧ (l.map (·.1))[it.ix - i]? = some it.o
  | [], fs, i, h => by
    cases fs with
    | nil => simp [its]
    | cons => simp at h
  | (o, id) :: l, fs, i, h => by
    cases fs with
    | nil => simp at h
    | cons f fs =>
      obtain ⟨h1, h2, h3⟩ := its_spec (l := l) (fs := fs) (i := i + 1) (by simpa using h)
      refine ⟨by simp [its, h1, List.range'_succ], by simp [its, h2], fun it hm => ?_⟩
      cases hm with
      | head => simp
      | tail _ hm =>
        obtain ⟨h4, h5⟩ := h3 it hm
        refine ⟨by omega, ?_⟩
        have : it.ix - i = (it.ix - (i + 1)) + 1 := by omega
        rw [this]
        simpa using h5
theorem allFree_spec {ops : List Oper} : ∀ {l : List It} {i : Nat}, l.map (·.ix) = List.range' i l.length → allFree ops i (l.map fun it => (it.o, it.f)) = true →
    List.Pairwise (fun x y => x.ix < y.ix ∧ (waits y.o x.ix || indep x.f y.f || before ops y.o x.ix) = true) l ∧ ∀ it ∈ l, ∀ e ∈ it.o.after.toList, Region.binds .any e = true → e.on < it.ix
  | [], i, _, _ => ⟨List.Pairwise.nil, by simp⟩
  | it :: l, i, hi, h => by
    simp only [List.map_cons, List.length_cons, List.range'_succ, List.cons.injEq] at hi
    obtain ⟨hi1, hi2⟩ := hi
    simp only [List.map_cons, allFree, Bool.and_eq_true] at h
    obtain ⟨⟨h1, h2⟩, h3⟩ := h
    obtain ⟨p1, p2⟩ := allFree_spec hi2 h3
    have hfree : ∀ (m : List It), freeOf ops i it.f (m.map fun it => (it.o, it.f)) = true → ∀ y ∈ m, (waits y.o i || indep it.f y.f || before ops y.o i) = true := by
      intro m
      induction m with
      | nil => intro _ y hy; cases hy
      | cons z m ih =>
        intro hf y hy
        simp only [List.map_cons, freeOf, Bool.and_eq_true] at hf
        cases hy with
        | head => exact hf.1
        | tail _ hy => exact ih hf.2 y hy
    refine ⟨List.pairwise_cons.2 ⟨fun y hy => ⟨?_, by rw [hi1]; exact hfree l h2 y hy⟩, p1⟩, fun q hq e he hb => ?_⟩
    · have : y.ix ∈ l.map (·.ix) := List.mem_map.2 ⟨y, hy, rfl⟩
      rw [hi2, List.mem_range'_1] at this
      omega
    · cases hq with
      | head =>
        have := List.all_eq_true.1 h1 e he
        rw [hb] at this
        simp only [Bool.not_true, Bool.false_or] at this
        have := Nat.le_of_ble_eq_true this
        omega
      | tail _ hq => exact p2 q hq e he hb
theorem region_ok0 (h : Inv K σ gh a w) {ops : Array Oper} {draw : Bool} {rid : Nat} {σ' : St} {nd : List (X × Nd)} (hreg : regionEx0 P sg K.wok ops draw σ = some (σ', nd)) (hm : P.follows .mixedOrders = true) {pre : FuncId → List D → Prop}
    (hM : ∀ f S, sg f = some S → MeetsAt P f S pre K.Φ) (hn : NdOk K pre nd) {Q : Exit → Act → World → Prop} (hQ : ∀ gh a w, Inv K σ' gh a w → Q .normal a w) : (Code.region rid ops draw).wp P Q a w := by
  unfold regionEx0 at hreg
  simp only at hreg
  split at hreg
  · cases hreg
  · rename_i σ2 nd2 fs hrun
    split at hreg
    · rename_i hc
      simp only [Option.some.injEq, Prod.mk.injEq] at hreg
      obtain ⟨rfl, rfl⟩ := hreg
      have h0 := h.addRes (countMakes sg ops.toList)
      obtain ⟨hruns, hfl⟩ := runOps_runs (i := 0) hrun
      obtain ⟨s1, s2, s3⟩ := its_spec (i := 0) hfl
      rw [number_fst] at s2 s3
      have hnl : (number sg σ.res.length ops.toList).length = ops.size := by
        have := congrArg List.length (number_fst (sg := sg) ops.toList σ.res.length)
        simpa using this
      have hops : ∀ it ∈ its 0 (number sg σ.res.length ops.toList) fs, ops[it.ix]? = some it.o := by
        intro it hit
        have := (s3 it hit).2
        simpa using this
      have hix : (its 0 (number sg σ.res.length ops.toList) fs).map (·.ix) = List.range ops.size := by
        rw [s1, hnl, List.range_eq_range']
      cases draw with
      | false =>
        refine wp_region ?_
        rw [← hix]
        exact lex_ok hM hQ _ h0 hruns hn hops
      | true =>
        simp only [Bool.not_true, Bool.false_or, Bool.and_eq_true] at hc
        have hlen : (its 0 (number sg σ.res.length ops.toList) fs).length = ops.size := by
          have := congrArg List.length hix
          simpa using this
        obtain ⟨p1, p2⟩ := allFree_spec (ops := ops.toList) (i := 0) (l := its 0 (number sg σ.res.length ops.toList) fs) (by rw [hix, hlen, List.range_eq_range']) (by rw [s2]; exact hc.2)
        refine wp_region_any hm ?_
        have hI : Inv K ⟨σ.slots, σ.res ++ List.replicate (countMakes sg ops.toList) none⟩ gh a { w with drawn := w.drawn + 1 } := by
          refine ⟨h0.defers, h0.size, fun n s hs => SV.rel_mono (w := w) (w' := { w with drawn := w.drawn + 1 }) (Gh.le.refl gh) (fun _ _ => rfl) (h0.slot n s hs), h0.kept, h0.os, h0.tape, h0.output, h0.grow, h0.pr, h0.prlt, h0.Flt, h0.beta, h0.vr0,
            fun r x hx hon => (h0.res r x hx hon).keep (w' := { w with drawn := w.drawn + 1 }) (Gh.le.refl gh) rfl rfl rfl (fun _ _ => rfl) (fun _ _ => rfl), h0.own, h0.inj, h0.le0, h0.Fpr⟩
        refine any_ok hM hQ ops.size hlen hI hruns hn hops p1 p2 (fun i => ?_) (by simp) (fun k o _ hkl => by
          exfalso
          by_cases hk : k < ops.size <;> simp [Array.getD, hk] at hkl)
        have : (Array.replicate ops.size false).getD i true = false ↔ i < ops.size := by
          by_cases hi : i < ops.size <;> simp [Array.getD, hi]
        rw [this]
        have hmem : i ∈ (its 0 (number sg σ.res.length ops.toList) fs).map (·.ix) ↔ i < ops.size := by rw [hix, List.mem_range]
        rw [← hmem, List.mem_map]
    · cases hreg
theorem frzRow_ok (h : Inv K σ gh a w) (r : Nat) : ∃ gh', Inv K ⟨σ.slots, frzRow σ.res r⟩ gh' a w := by
  unfold frzRow
  split
  · rename_i g e cts c v hr
    split
    · rename_i hg
      obtain ⟨gh', h', _⟩ := freeze_one h (p := (r, ⟨g, .row e cts c v true⟩)) ⟨_, getD_has hr, isTt_sound hg, .inr ⟨_, _, _, _, rfl, rfl⟩⟩
      exact ⟨gh', h'⟩
    · exact ⟨gh, h⟩
  · exact ⟨gh, h⟩
theorem frzRows_ok : ∀ {rs : List Nat} {σ : St} {gh : Gh}, Inv K σ gh a w → ∃ gh', Inv K (frzRows rs σ) gh' a w
  | [], σ, gh, h => ⟨gh, h⟩
  | r :: rs, σ, gh, h => by
    obtain ⟨gh', h'⟩ := frzRow_ok h r
    exact frzRows_ok (rs := rs) h'
theorem region_ok (h : Inv K σ gh a w) {ops : Array Oper} {draw : Bool} {rid : Nat} {σ' : St} {nd : List (X × Nd)} (hreg : regionEx P sg K.wok ops draw σ = some (σ', nd)) (hm : P.follows .mixedOrders = true) {pre : FuncId → List D → Prop}
    (hM : ∀ f S, sg f = some S → MeetsAt P f S pre K.Φ) (hn : NdOk K pre nd) {Q : Exit → Act → World → Prop} (hQ : ∀ gh a w, Inv K σ' gh a w → Q .normal a w) : (Code.region rid ops draw).wp P Q a w := by
  obtain ⟨gh', h'⟩ := frzRows_ok (rs := twice P sg K.wok ops.toList σ) h
  exact region_ok0 h' hreg hm hM hn hQ
theorem rowSwap_ok (h : Inv K σ gh a w) (p : Nat × Nat) : ∃ gh', Inv K (rowSwap σ p) gh' a w := by
  obtain ⟨r, q⟩ := p
  unfold rowSwap
  split
  · rename_i g e c x v z g' e' c' x' v' z' hr hq
    simp only at hr hq
    split
    · rename_i hc
      simp only [Bool.and_eq_true, Bool.not_eq_true', beq_eq_false_iff_ne, ne_eq] at hc
      obtain ⟨⟨hg, hg'⟩, hne⟩ := hc
      have hr := getD_has hr
      have hq := getD_has hq
      have hon := isTt_sound (Φ := K.Φ) (ρ := K.ρ) hg
      have hon' := isTt_sound (Φ := K.Φ) (ρ := K.ρ) hg'
      obtain ⟨a1, a2, a3, a4⟩ := h.res r _ hr hon
      obtain ⟨b1, b2, b3, b4⟩ := h.res q _ hq hon'
      have hlr : r < σ.res.length := (List.getElem?_eq_some_iff.1 hr).1
      have hlq : q < σ.res.length := (List.getElem?_eq_some_iff.1 hq).1
      let gh' : Gh := { gh with rv := fun i => if i = r then gh.rv q else if i = q then gh.rv r else gh.rv i, vr := fun i => if i = r then v + 1 else if i = q then v' + 1 else gh.vr i }
      have rr : gh'.rv r = gh.rv q := by simp [gh']
      have rq : gh'.rv q = gh.rv r := by simp [gh', Ne.symm hne]
      have vr : gh'.vr r = v + 1 := by simp [gh']
      have vq : gh'.vr q = v' + 1 := by simp [gh', Ne.symm hne]
      have ro : ∀ i, i ≠ r → i ≠ q → gh'.rv i = gh.rv i ∧ gh'.vr i = gh.vr i := fun i h1 h2 => by simp [gh', h1, h2]
      have hle : gh.le gh' := ⟨fun _ _ h => h, fun i => by
          by_cases h1 : i = r
          · subst h1; rw [vr]; omega
          · by_cases h2 : i = q
            · subst h2; rw [vq]; omega
            · rw [(ro i h1 h2).2]; exact Nat.le_refl _,
        fun i h1 h2 => by
          by_cases h3 : i = r
          · subst h3; rw [vr] at h2; omega
          · by_cases h4 : i = q
            · subst h4; rw [vq] at h2; omega
            · exact (ro i h3 h4).1, fun _ h => h⟩
      have gr : ((σ.res.set r (some ⟨g', .row e' c' x' (v + 1) z'⟩)).set q (some ⟨g, .row e c x (v' + 1) z⟩))[r]? = some (some ⟨g', .row e' c' x' (v + 1) z'⟩) := by
        rw [List.getElem?_set, if_neg (Ne.symm hne), getElem?_set_has hlr]
      have gq : ((σ.res.set r (some ⟨g', .row e' c' x' (v + 1) z'⟩)).set q (some ⟨g, .row e c x (v' + 1) z⟩))[q]? = some (some ⟨g, .row e c x (v' + 1) z⟩) := by
        rw [getElem?_set_has (by simpa using hlq)]
      have h1 : Inv K ⟨σ.slots, (σ.res.set r (some ⟨g', .row e' c' x' (v + 1) z'⟩)).set q (some ⟨g, .row e c x (v' + 1) z⟩)⟩ gh' a w := by
        refine h.step (T := fun i => i = r ∨ i = q) ⟨hle, rfl, rfl, rfl, Nat.le_refl _, fun i hi => ?_, fun _ _ _ => rfl, h.Flt, fun b hb => .inl hb, fun i y hT hy hony => ?_, fun i y b hT hy hony hl => ?_, fun i y i' y' b hT hT' hy _ hy' _ hl hl' => ?_, fun i b hT hb => ?_, fun i hT _ => ?_⟩
        · simp only [not_or] at hi
          exact ⟨by rw [List.getElem?_set, if_neg (Ne.symm hi.2), List.getElem?_set, if_neg (Ne.symm hi.1)], rfl, ro i hi.1 hi.2⟩
        · rcases hT with rfl | rfl
          · rw [gr] at hy
            simp only [Option.some.injEq] at hy
            subst hy
            refine ⟨vr, by omega, by rw [rr]; exact b3, ?_⟩
            rw [rr]
            exact b4
          · rw [gq] at hy
            simp only [Option.some.injEq] at hy
            subst hy
            refine ⟨vq, by omega, by rw [rq]; exact a3, ?_⟩
            rw [rq]
            exact a4
        · have key : ∃ (i0 : Nat) (y0 : Res), (i0 = r ∨ i0 = q) ∧ σ.has i0 y0 ∧ y0.on K ∧ y0.k.live gh i0 = some b := by
            rcases hT with rfl | rfl
            · rw [gr] at hy
              simp only [Option.some.injEq] at hy
              subst hy
              refine ⟨q, _, .inr rfl, hq, hon', ?_⟩
              rw [← hl]
              cases z' <;> simp [RK.live, rr]
            · rw [gq] at hy
              simp only [Option.some.injEq] at hy
              subst hy
              refine ⟨r, _, .inl rfl, hr, hon, ?_⟩
              rw [← hl]
              cases z <;> simp [RK.live, rq]
          obtain ⟨i0, y0, k1, k2, k3, k4⟩ := key
          obtain ⟨o1, o2, o3⟩ := h.own i0 y0 b k2 k3 k4
          refine ⟨o1, o2, o3, fun r2 x2 hT2 hx2 hon2 hl2 => hT2 ?_⟩
          rw [h.inj r2 x2 i0 y0 b hx2 hon2 k2 k3 hl2 k4]
          exact k1
        · have hx : ∀ i y, (i = r ∨ i = q) → ((σ.res.set r (some ⟨g', .row e' c' x' (v + 1) z'⟩)).set q (some ⟨g, .row e c x (v' + 1) z⟩))[i]? = some (some y) → y.k.live gh' i = some b → (i = r → (Res.mk g' (.row e' c' x' v' z')).k.live gh q = some b) ∧ (i = q → (Res.mk g (.row e c x v z)).k.live gh r = some b) := by
            intro i y hT hy hl
            refine ⟨fun e1 => ?_, fun e1 => ?_⟩
            · subst e1
              rw [gr] at hy
              simp only [Option.some.injEq] at hy
              subst hy
              rw [← hl]
              cases z' <;> simp [RK.live, rr]
            · subst e1
              rw [gq] at hy
              simp only [Option.some.injEq] at hy
              subst hy
              rw [← hl]
              cases z <;> simp [RK.live, rq]
          obtain ⟨p1, p2⟩ := hx i y hT hy hl
          obtain ⟨p3, p4⟩ := hx i' y' hT' hy' hl'
          rcases hT with e1 | e1 <;> rcases hT' with e2 | e2
          · rw [e1, e2]
          · exact absurd (h.inj q _ r _ b hq hon' hr hon (p1 e1) (p4 e2)) (Ne.symm hne)
          · exact absurd (h.inj r _ q _ b hr hon hq hon' (p2 e1) (p3 e2)) hne
          · rw [e1, e2]
        · rcases hT with rfl | rfl
          · exact ⟨_, gr, hon'⟩
          · exact ⟨_, gq, hon⟩
        · rcases hT with rfl | rfl
          · exact ⟨_, gr, hon'⟩
          · exact ⟨_, gq, hon⟩
      refine ⟨gh', h1.defers, by simp [h1.size], fun n s hs => ?_, h1.kept, h1.os, h1.tape, h1.output, h1.grow, h1.pr, h1.prlt, h1.Flt, h1.beta, h1.vr0, h1.res, h1.own, h1.inj, h1.le0, h1.Fpr⟩
      simp only [List.getElem?_map, Option.map_eq_some_iff] at hs
      obtain ⟨s0, hs0, rfl⟩ := hs
      have hrel := h1.slot n s0 hs0
      unfold swapSlot
      split
      · rename_i p u
        split
        · rename_i hpu
          simp only [Bool.and_eq_true, beq_iff_eq] at hpu
          obtain ⟨rfl, rfl⟩ := hpu
          obtain ⟨k1, _, _, k4⟩ : SC.rel K.Φ K.ρ w gh (.row p u) _ := h.slot n _ hs0
          exact ⟨k1, by omega, by rw [vr]; exact Nat.le_refl _, fun _ => by rw [rr]; exact k4 b1⟩
        · exact hrel
      · exact hrel
    · exact ⟨gh, h⟩
  · exact ⟨gh, h⟩
theorem alignRows_ok (hd : St) (h : Inv K σ gh a w) : ∃ gh', Inv K (alignRows hd σ) gh' a w := by
  unfold alignRows
  generalize swapsOf hd σ = l
  induction l generalizing σ gh with
  | nil => exact ⟨gh, h⟩
  | cons p l ih =>
    obtain ⟨gh', h'⟩ := rowSwap_ok h p
    exact ih h'
end
end Go.RV
