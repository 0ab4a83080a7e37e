/-
  RV, part 11c: calls of functions that write what their caller's pointers lead to.
-/
import Derived.Test.YthnilbkkihmpoaaRvRow
namespace Go.RV
open Go.RowKit

/-- the frame of a call -/
def frameOf (n : Nat) (vs : List Value) : Act := { tmps := vs.toArray ++ Array.replicate (n - vs.toArray.size) undef, defers := [] }
def noAct : Act := { tmps := #[], defers := [] }

/-- THE CONTRACT OF A FUNCTION THAT WRITES, called in a state of the caller's memory -/
def ProcMeets (P : Program) (f : FuncId) (S : Sig) (L : LoopSig) (m : Nat) (pre : List D → Prop) (fn : List D → List D) : Prop :=
  (∀ (args : Array Value) (w : World), (callFunc f args).run P w = .ok (.enter f args) w) ∧
  ∀ (K : Ctx) (gh : Gh) (vs : List Value) (w : World), K.wok = (fun n => L.ws.contains n) → K.ρ.length = L.nv → pre K.ρ → vs.length = S.ps.length → Inv K L.head gh (frameOf L.head.slots.length vs) w →
    Calls P f vs.toArray w fun e w' => ∃ v vals outs gh' F', fn K.ρ = .i 0 :: (vals ++ outs) ∧ vals.length = L.wv.length ∧ e = .returned v ∧ ResRep w' F' S.rs v outs ∧
      Inv { K with ρ := setVars (K.ρ.take m) L.wv vals, gh0 := gh', a0 := noAct } ⟨[], L.head.res⟩ gh' noAct w' ∧ LoopLe L K.Pr gh gh'

def MeetsAt (P : Program) (f : FuncId) (S : Sig) (pre : FuncId → List D → Prop) (Φ : FuncId → List D → List D) : Prop :=
  S.w.isSome = true ∨ (S.pc.isEmpty = true ∧ MeetsP P f S (pre f) (Φ f)) ∨ (S.pc.isEmpty = false ∧ f < 20000 ∧ ∀ p ∈ S.pc, ProcMeets P f S p.1 p.2 (pre p.1.key) (Φ p.1.key))

section
variable {P : Program} {K : Ctx} {σ : St} {gh : Gh} {a : Act} {w : World} {o : Oper}

theorem MeetsAt.plain {f : FuncId} {S : Sig} {pre : FuncId → List D → Prop} {Φ : FuncId → List D → List D} (h : MeetsAt P f S pre Φ) (hw : ¬ S.w.isSome = true) (hp : S.pc.isEmpty = true) : MeetsP P f S (pre f) (Φ f) := by
  rcases h with h | h | h
  · exact absurd h hw
  · exact h.2
  · rw [hp] at h; exact absurd h.1 (by simp)
theorem MeetsAt.proc {f : FuncId} {S : Sig} {pre : FuncId → List D → Prop} {Φ : FuncId → List D → List D} (h : MeetsAt P f S pre Φ) (hw : ¬ S.w.isSome = true) (hp : ¬ S.pc.isEmpty = true) : f < 20000 ∧ ∀ p ∈ S.pc, ProcMeets P f S p.1 p.2 (pre p.1.key) (Φ p.1.key) := by
  rcases h with h | h | h
  · exact absurd h hw
  · exact absurd h.1 hp
  · exact h.2

/-- the same memory, another frame -/
theorem Inv.frame (h : Inv K σ gh a w) {sl : List SV} {a' : Act} (hd : a'.defers = []) (hsz : a'.tmps.size = sl.length) (hs : ∀ (n : Nat) s, sl[n]? = some s → SV.rel K.Φ K.ρ w gh s (a'.tmps.getD n undef)) {wok : Nat → Bool} {a0 : Act}
    (hk : ∀ n, wok n = false → a'.tmps.getD n undef = a0.tmps.getD n undef) : Inv { K with wok := wok, a0 := a0 } ⟨sl, σ.res⟩ gh a' w :=
  ⟨hd, hsz, hs, hk, h.os, h.tape, h.output, h.grow, h.pr, h.prlt, h.Flt, h.beta, h.vr0, h.res, h.own, h.inj, h.le0, h.Fpr⟩

theorem readAll_run : ∀ {rs : List Nat} {k : List (Nat × Res) → RM} {eo : EO}, (readAll rs k).run σ.res = some eo → ∃ l, (k l).run σ.res = some eo ∧ l.map (·.1) = rs ∧ ∀ p ∈ l, σ.has p.1 p.2
  | [], k, eo, h => ⟨[], h, rfl, by simp⟩
  | r :: rs, k, eo, h => by
    unfold readAll at h
    obtain ⟨R, hR, h⟩ := RM.run_res h
    obtain ⟨l, h1, h2, h3⟩ := readAll_run h
    exact ⟨(r, R) :: l, h1, by simp [h2], fun p hp => by cases hp with | head => exact hR | tail _ hp => exact h3 p hp⟩

theorem resAt_get {l : List (Nat × Res)} {hs : List (Option Res)} (hl : l.map (·.1) = listedOf hs) (h : ∀ p ∈ l, σ.has p.1 p.2) {r : Nat} (hr : listed hs r = true) : (resAt l hs.length).getD r none = σ.res.getD r none := by
  obtain ⟨x, hx, _⟩ := listed_get hr
  have hlt : r < hs.length := (List.getElem?_eq_some_iff.1 hx).1
  have hmem : r ∈ l.map (·.1) := by rw [hl]; simp [listedOf, hlt, hr]
  obtain ⟨p, hp, rfl⟩ := List.mem_map.1 hmem
  have hf : ∃ q, l.find? (·.1 == p.1) = some q := by
    cases hq : l.find? (·.1 == p.1) with
    | some q => exact ⟨q, rfl⟩
    | none => have := List.find?_eq_none.1 hq p hp; simp at this
  obtain ⟨q, hq⟩ := hf
  have hq1 : q.1 = p.1 := by have := List.find?_some hq; simpa using this
  have hq2 : σ.has q.1 q.2 := h q (List.mem_of_find?_eq_some hq)
  unfold St.has at hq2
  rw [hq1] at hq2
  simp only [resAt, List.getD, List.getElem?_map, List.getElem?_range hlt, Option.map_some, Option.getD_some, hq, hq2]

theorem matchSC_congr {hs rs rs' : List (Option Res)} (h : ∀ r, listed hs r = true → rs.getD r none = rs'.getD r none) (s t : SC) : matchSC hs rs s t = matchSC hs rs' s t := by
  unfold matchSC
  split <;> try rfl
  · rename_i r one r' ver
    by_cases hl : listed hs r = true
    · rw [h r hl]
    · simp [hl]
  · rename_i r one m i off r' ver m' e off'
    by_cases hl : listed hs r = true
    · rw [h r hl]
    · simp [hl]
theorem matchSCs_congr {hs rs rs' : List (Option Res)} (h : ∀ r, listed hs r = true → rs.getD r none = rs'.getD r none) : ∀ (s t : List SC), matchSCs hs rs s t = matchSCs hs rs' s t
  | [], [] => rfl
  | [], _ :: _ => rfl
  | _ :: _, [] => rfl
  | a :: as, b :: bs => by simp only [matchSCs, matchSC_congr h a b, matchSCs_congr h as bs]
theorem matchSV_congr {hs rs rs' : List (Option Res)} (h : ∀ r, listed hs r = true → rs.getD r none = rs'.getD r none) (s t : SV) : matchSV hs rs s t = matchSV hs rs' s t := by
  unfold matchSV
  split <;> first | rfl | exact matchSC_congr h _ _ | exact matchSCs_congr h _ _
theorem matchSVs_congr {hs rs rs' : List (Option Res)} (h : ∀ r, listed hs r = true → rs.getD r none = rs'.getD r none) : ∀ (s t : List SV), matchSVs hs rs s t = matchSVs hs rs' s t
  | [], [] => rfl
  | [], _ :: _ => rfl
  | _ :: _, [] => rfl
  | a :: as, b :: bs => by simp only [matchSVs, matchSV_congr h a b, matchSVs_congr h as bs]
theorem matchRK_congr {hs rs rs' : List (Option Res)} (h : ∀ r, listed hs r = true → rs.getD r none = rs'.getD r none) (s t : RK) : matchRK hs rs s t = matchRK hs rs' s t := by
  unfold matchRK
  split <;> first | rfl | (split <;> first | rfl | exact matchSCs_congr h _ _)
theorem matchRess_congr {hs rs rs' : List (Option Res)} (h : ∀ r, listed hs r = true → rs.getD r none = rs'.getD r none) : ∀ (as bs bs' : List (Option Res)), as.length ≤ bs.length → as.length ≤ bs'.length → (∀ (r : Nat) y, as[r]? = some (some y) → bs.getD r none = bs'.getD r none) → matchRess hs rs as bs = matchRess hs rs' as bs'
  | [], _, _, _, _, _ => by simp [matchRess]
  | _ :: _, [], _, h1, _, _ => by simp at h1
  | _ :: _, _ :: _, [], _, h2, _ => by simp at h2
  | none :: as, b :: bs, b' :: bs', h1, h2, h3 => by
    have := matchRess_congr h as bs bs' (by simpa using h1) (by simpa using h2) (fun r y hy => by simpa using h3 (r + 1) y (by simpa using hy))
    cases b <;> cases b' <;> simpa [matchRess] using this
  | some y :: as, b :: bs, b' :: bs', h1, h2, h3 => by
    have h0 := h3 0 y rfl
    simp only [List.getD_cons_zero] at h0
    subst h0
    have := matchRess_congr h as bs bs' (by simpa using h1) (by simpa using h2) (fun r y hy => by simpa using h3 (r + 1) y (by simpa using hy))
    cases b with
    | none => rfl
    | some b => simp only [matchRess, matchRK_congr h, this]

theorem setAll_get : ∀ {wr : List (Nat × Res)} {rs : List (Option Res)}, (∀ p ∈ wr, p.1 < rs.length) → (wr.map (·.1)).Nodup → ∀ r, (setAll rs wr)[r]? = match wr.find? (·.1 == r) with
    | some p => some (some p.2)
    | none => rs[r]?
  | [], rs, _, _, r => rfl
  | p :: wr, rs, h, hn, r => by
    simp only [List.map_cons, List.nodup_cons] at hn
    have ih := setAll_get (wr := wr) (rs := rs.set p.1 (some p.2)) (fun q hq => by rw [List.length_set]; exact h q (List.mem_cons_of_mem _ hq)) hn.2 r
    show (setAll (rs.set p.1 (some p.2)) wr)[r]? = _
    rw [ih, List.find?_cons]
    by_cases e : p.1 = r
    · have hno : wr.find? (·.1 == r) = none := List.find?_eq_none.2 fun q hq => by
        simp only [beq_iff_eq]
        intro hqr
        exact hn.1 (List.mem_map.2 ⟨q, hq, by rw [hqr, e]⟩)
      rw [hno]
      have e' : (p.1 == r) = true := by simpa using e
      rw [e']
      simp only
      rw [e]
      exact getElem?_set_has (by rw [← e]; exact h p List.mem_cons_self)
    · have e' : (p.1 == r) = false := by simpa using e
      rw [e']
      cases wr.find? (·.1 == r) with
      | some q => rfl
      | none => simp only; rw [List.getElem?_set, if_neg e]
theorem setAll_len : ∀ {wr : List (Nat × Res)} {rs : List (Option Res)}, (setAll rs wr).length = rs.length
  | [], rs => rfl
  | p :: wr, rs => by
    show (setAll (rs.set p.1 (some p.2)) wr).length = _
    rw [setAll_len, List.length_set]

theorem wrPr_zip {L : LoopSig} {xs : List X} {l : List (Nat × Res)} (hl : l.map (·.1) = listedOf L.head.res) (h : ∀ p ∈ l, σ.has p.1 p.2) (hlen : L.head.res.length ≤ σ.res.length) :
    setAll σ.res (wrPr L xs (resAt l L.head.res.length)) = zipRes (instRK (subOf L xs) (versOf L σ)) 0 L.head.res σ.res := by
  obtain ⟨z1, z2⟩ := zipRes_get (f := instRK (subOf L xs) (versOf L σ)) (k := 0) hlen
  have hv : versOf L ⟨[], resAt l L.head.res.length⟩ = versOf L σ := by
    funext r
    simp only [versOf]
    by_cases hr : listed L.head.res r = true
    · rw [resAt_get (hs := L.head.res) hl h hr]
    · have : L.head.res.getD r none = none := by
        unfold listed at hr
        cases hx : L.head.res.getD r none with
        | none => rfl
        | some z => rw [hx] at hr; simp at hr
      rw [this]
  have keys : (wrPr L xs (resAt l L.head.res.length)).map (·.1) = listedOf L.head.res := by
    unfold wrPr
    have : ∀ ks : List Nat, (∀ r ∈ ks, listed L.head.res r = true) → (ks.filterMap fun r => match L.head.res.getD r none with
        | some y => some (r, (⟨tt, instRK (subOf L xs) (versOf L ⟨[], resAt l L.head.res.length⟩) r y.k⟩ : Res))
        | none => none).map (·.1) = ks := by
      intro ks
      induction ks with
      | nil => intro _; rfl
      | cons r ks ih =>
        intro hk
        obtain ⟨y, _, hy⟩ := listed_get (hk r List.mem_cons_self)
        rw [List.filterMap_cons, hy]
        simp only [List.map_cons]
        rw [ih fun q hq => hk q (List.mem_cons_of_mem _ hq)]
    exact this _ fun r hr => (List.mem_filter.1 hr).2
  have nodup : ((wrPr L xs (resAt l L.head.res.length)).map (·.1)).Nodup := by
    rw [keys]; exact List.Pairwise.filter _ List.nodup_range
  have mem : ∀ p ∈ wrPr L xs (resAt l L.head.res.length), ∃ y, L.head.res[p.1]? = some (some y) ∧ p.2 = ⟨tt, instRK (subOf L xs) (versOf L σ) p.1 y.k⟩ := by
    intro p hp
    unfold wrPr at hp
    obtain ⟨r, hr, hp⟩ := List.mem_filterMap.1 hp
    have hr' := (List.mem_filter.1 hr).2
    obtain ⟨y, hy1, hy2⟩ := listed_get hr'
    rw [hy2] at hp
    simp only [Option.some.injEq] at hp
    subst hp
    exact ⟨y, hy1, by rw [hv]⟩
  apply List.ext_getElem?
  intro r
  rw [setAll_get (fun p hp => by
    obtain ⟨y, hy, _⟩ := mem p hp
    have := (List.getElem?_eq_some_iff.1 hy).1
    omega) nodup]
  cases hf : (wrPr L xs (resAt l L.head.res.length)).find? (·.1 == r) with
  | some p =>
    have hp1 : p.1 = r := by have := List.find?_some hf; simpa using this
    obtain ⟨y, hy, hp2⟩ := mem p (List.mem_of_find?_eq_some hf)
    rw [hp1] at hy hp2
    have := (z2 r).1 y hy
    rw [Nat.zero_add] at this
    rw [this, ← hp2]
  | none =>
    refine ((z2 r).2 fun y hy => ?_).symm
    have hlr := listed_of hy
    have hmem : r ∈ (wrPr L xs (resAt l L.head.res.length)).map (·.1) := by
      rw [keys]
      have := (List.getElem?_eq_some_iff.1 hy).1
      simp [listedOf, this, hlr]
    obtain ⟨p, hp, rfl⟩ := List.mem_map.1 hmem
    have := List.find?_eq_none.1 hf p hp
    simp at this

theorem zipSlots_nil {f : SV → SV} : ∀ {as bs : List SV} {k : Nat}, zipSlots [] f k as bs = bs
  | [], [], _ => rfl
  | [], _ :: _, _ => rfl
  | _ :: _, [], _ => rfl
  | a :: as, b :: bs, k => by simp [zipSlots, zipSlots_nil (as := as) (bs := bs)]

theorem sameX_eq : ∀ {as bs : List X}, sameX as bs = true → as = bs
  | [], [], _ => rfl
  | a :: as, b :: bs, h => by
    simp only [sameX, Bool.and_eq_true] at h
    rw [X.beq_eq _ _ h.1, sameX_eq h.2]
  | [], _ :: _, h => by cases h
  | _ :: _, [], h => by cases h

theorem anys_match {hs rs : List (Option Res)} : ∀ {sl : List SV}, matchSVs hs rs (anys sl.length) sl = some []
  | [] => rfl
  | s :: sl => by
    have ih := anys_match (hs := hs) (rs := rs) (sl := sl)
    have e : anys (s :: sl).length = .any :: anys sl.length := rfl
    rw [e]
    unfold matchSVs
    rw [ih]
    simp [matchSV]

theorem last_len {L : LoopSig} (h : lastSome L.head.res = true) {l : List (Nat × Res)} (hl : l.map (·.1) = listedOf L.head.res) (hh : ∀ p ∈ l, σ.has p.1 p.2) : L.head.res.length ≤ σ.res.length := by
  cases hn : L.head.res.length with
  | zero => omega
  | succ n =>
    have hne : L.head.res ≠ [] := by intro e; rw [e] at hn; cases hn
    have hg : L.head.res.getLast? = L.head.res[n]? := by rw [List.getLast?_eq_getElem?, hn]; rfl
    have hlt : n < L.head.res.length := by omega
    unfold lastSome at h
    rw [hg, List.getElem?_eq_getElem hlt] at h
    cases hx : L.head.res[n] with
    | none => rw [hx] at h; cases h
    | some y =>
      have hy : L.head.res[n]? = some (some y) := by rw [List.getElem?_eq_getElem hlt, hx]
      have hmem : n ∈ l.map (·.1) := by rw [hl]; simp [listedOf, hlt, listed_of hy]
      obtain ⟨p, hp, rfl⟩ := List.mem_map.1 hmem
      have := (List.getElem?_eq_some_iff.1 (hh p hp)).1
      omega

theorem eff_proc (h : Inv K σ gh a w) {f : FuncId} {S : Sig} {L : LoopSig} {m : Nat} {svs : List SV} {vals : List Value} (hlen : svs.length = vals.length) (hargs : ∀ (j : Nat) s v, svs[j]? = some s → vals[j]? = some v → SV.rel K.Φ K.ρ w gh s v)
    {G : X} {eo : EO} {pre : FuncId → List D → Prop} (hM : ProcMeets P f S L m (pre L.key) (K.Φ L.key)) (hrun : (execOp a.eval o).run P w = .ok (.enter f vals.toArray) w)
    (he : (effProc G S L m svs).run σ.res = some eo) (hn : ∀ n ∈ eo.nd, n.holds pre K.Φ K.ρ) : EffOk K σ P o a w eo := by
  unfold effProc at he
  split at he
  · exact (RM.run_fail he).elim
  · rename_i hc0
    simp only [Bool.not_eq_true, Bool.not_eq_false', Bool.and_eq_true] at hc0
    obtain ⟨l, he, hl, hh⟩ := readAll_run he
    have hrl := last_len hc0.2 hl hh
    have hag : ∀ r, listed L.head.res r = true → (resAt l L.head.res.length).getD r none = σ.res.getD r none := fun r hr => resAt_get hl hh hr
    have hag2 : ∀ (r : Nat) y, L.head.res[r]? = some (some y) → (resAt l L.head.res.length).getD r none = σ.res.getD r none := fun r y hy => hag r (listed_of hy)
    have hrsl : L.head.res.length ≤ (resAt l L.head.res.length).length := by simp [resAt]
    simp only at he
    split at he
    · rename_i xs ys hx hy
      split at he
      · rename_i hc
        simp only [Bool.and_eq_true, beq_iff_eq] at hc
        obtain ⟨⟨hc1, hsc⟩, hal⟩ := hc
        have hys := sameX_eq hc1
        split at he
        · rename_i rv hrv
          have := RM.run_done he
          subst this
          have hx' : matchHead L.head L.nv ⟨svs ++ List.replicate (L.head.slots.length - svs.length) .und, σ.res⟩ = some xs := by
            rw [← hx]
            unfold matchHead
            rw [matchSVs_congr hag, matchRess_congr hag _ _ _ hrsl hrl hag2]
          have hy' : matchHead ⟨anys σ.slots.length, L.head.res⟩ m σ = some ys := by
            rw [← hy]
            unfold matchHead
            simp only
            rw [anys_match, matchRess_congr hag _ _ _ hrsl hrl hag2]
            rfl
          obtain ⟨lx, mx, hkx⟩ := match_ok hx'
          obtain ⟨ly, my, hky⟩ := match_ok hy'
          have hlx := hkx.len
          have hly := hky.len
          have hmle : m ≤ xs.length := by
            have := congrArg List.length hys
            rw [List.length_take, hly] at this
            omega
          let fr : Act := frameOf L.head.slots.length vals
          let K1 : Ctx := { K with wok := fun _ => true, a0 := fr }
          let τ : St := ⟨svs ++ List.replicate (L.head.slots.length - svs.length) .und, σ.res⟩
          obtain ⟨sl1, _⟩ := matchSVs_get hkx.slots
          have hτ : Inv K1 τ gh fr w := by
            refine h.frame rfl ?_ (fun n s hs => ?_) (fun n hn => by cases hn)
            · simp [fr, frameOf, hlen]
            · by_cases hlt : n < svs.length
              · rw [List.getElem?_append_left hlt] at hs
                have hv : vals[n]? = some vals[n] := List.getElem?_eq_getElem (by omega)
                have := hargs n s _ hs hv
                have e : fr.tmps.getD n undef = vals[n] := by
                  simp only [fr, frameOf, Array.getD_eq_getD_getElem?]
                  rw [Array.getElem?_append_left (by simp; omega)]
                  simp [hv]
                rw [e]
                exact this
              · rw [List.getElem?_append_right (by omega), List.getElem?_replicate] at hs
                split at hs
                · simp only [Option.some.injEq] at hs
                  subst hs
                  show fr.tmps.getD n undef = undef
                  simp only [fr, frameOf, Array.getD_eq_getD_getElem?]
                  rw [Array.getElem?_append_right (by simp; omega), Array.getElem?_replicate]
                  split <;> rfl
                · cases hs
          have hI := loop_enter hτ hx'
          have hpre : pre L.key ((consX xs).ds K.Φ K.ρ) := hn (.pre L.key (consX xs)) (by simp)
          rw [ds_consX] at hpre
          have hcall := hM.2 (loopCtx K1 L xs τ gh fr w) (gh.cut L.head.res) vals w rfl (by simp [loopCtx, hlx]) hpre (by rw [← hlen]; exact hal) hI
          refine Does.enter hrun (hcall.mono fun e w' ⟨v, vs2, outs, gh', F', hfn, hvl, hev, hres, hfin, hle⟩ => ⟨v, hev, ?_⟩)
          have hfn' : K.Φ L.key (xs.map (X.d K.Φ K.ρ)) = .i 0 :: (vs2 ++ outs) := hfn
          let L' : LoopSig := { L with head := ⟨anys σ.slots.length, L.head.res⟩, nv := m, ws := [] }
          let K' : Ctx := { loopCtx K1 L xs τ gh fr w with ρ := setVars ((xs.map (X.d K.Φ K.ρ)).take m) L.wv vs2, gh0 := gh', wok := fun n => L'.ws.contains n, a0 := a }
          have hL : Inv K' L'.head gh' a w' := hfin.frame h.defers (by rw [h.size]; simp [anys]) (fun n s hs => by
            have : s = .any := by
              have hs' : (List.replicate σ.slots.length SV.any)[n]? = some s := hs
              rw [List.getElem?_replicate] at hs'
              split at hs'
              · simpa using hs'.symm
              · cases hs'
            subst this
            trivial) (fun n _ => rfl)
          have hsub : ∀ i, i < L'.nv → (subOf L xs i).d K.Φ K.ρ = K'.ρ.getD i default := by
            intro i hi
            have hi' : i < ((xs.map (X.d K.Φ K.ρ)).take m).length := by rw [List.length_take, List.length_map]; have : i < m := hi; omega
            show _ = (setVars ((xs.map (X.d K.Φ K.ρ)).take m) L.wv vs2).getD i default
            rw [setVars_get _ _ _ hi']
            unfold subOf
            cases hpi : posIn i L.wv with
            | some j =>
              have hj := (List.getElem?_eq_some_iff.1 (posIn_get hpi)).1
              simp only [X.d, ds_consX, hfn', List.getD_cons_succ]
              simp only [List.getD]
              rw [List.getElem?_append_left (by omega)]
            | none =>
              have hix : i < xs.length := by have : i < m := hi; omega
              simp only [List.getD, List.getElem?_take, List.getElem?_map, List.getElem?_eq_getElem hix, Option.map_some, Option.getD_some, if_pos (show i < m from hi)]
          obtain ⟨r1, r2⟩ := leave_with h (L := L') hy' rfl (K' := K') rfl (sub := subOf L xs) hsub rfl rfl rfl rfl hL ⟨hle.β, hle.F, hle.Fn, hle.rv⟩
          refine ⟨afterGh L' σ gh gh', ?_, resSV_rel (gh := afterGh L' σ gh gh') hrv (hres.scalar hsc) fun i hi => ?_⟩
          · have e : afterWith L' (subOf L xs) σ = ⟨σ.slots, setAll σ.res (wrPr L xs (resAt l L.head.res.length))⟩ := by
              unfold afterWith
              rw [wrPr_zip hl hh hrl]
              congr 1
              exact zipSlots_nil
            rw [e] at r1
            exact r1
          · simp only [X.d, ds_consX, hfn']
            rw [show L.wv.length + 1 + i = (L.wv.length + i) + 1 by omega, List.getD_cons_succ]
            simp only [List.getD]
            rw [List.getElem?_append_right (by omega)]
            congr 2
            omega
        · exact (RM.run_fail he).elim
      · exact (RM.run_fail he).elim
    · exact (RM.run_fail he).elim

variable {sg : FuncId → Option Sig}

theorem own_cond {S : Sig} {ow : Bool} {Q : Nat → Prop} (h : ¬ (S.w.isSome || !(ow || oNs S.rs == 0)) = true) (hq : ow = true → ∀ i, i < oNs S.rs → Q i) : ¬ S.w.isSome = true ∧ ∀ i, i < oNs S.rs → Q i := by
  simp only [Bool.or_eq_true, Bool.not_eq_true', Bool.or_eq_false_iff, not_or, not_and, Bool.not_eq_false] at h
  refine ⟨h.1, fun i hi => ?_⟩
  cases ow with
  | true => exact hq rfl i hi
  | false => have := h.2 rfl; simp at this; omega

theorem eff_callAny (h : Inv K σ gh a w) {f : FuncId} {svs : List SV} {vals : List Value} (hlen : svs.length = vals.length) (hargs : ∀ (j : Nat) s v, svs[j]? = some s → vals[j]? = some v → SV.rel K.Φ K.ρ w gh s v) {G : X} (hG : (G.d K.Φ K.ρ).bool = true) {eo : EO} {id : Nat} {ow : Bool} (hid : ∀ S, sg f = some S → ow = true → ∀ i, i < oNs S.rs → σ.res[id + i]? = some none)
    {pre : FuncId → List D → Prop} (hM : ∀ f S, sg f = some S → MeetsAt P f S pre K.Φ) (hlt : f < 20000) (hrun : (∀ w, (callFunc f vals.toArray).run P w = .ok (.enter f vals.toArray) w) → (execOp a.eval o).run P w = .ok (.enter f vals.toArray) w)
    (he : (effCall sg G id ow f svs).run σ.res = some eo) (hn : ∀ n ∈ eo.nd, n.holds pre K.Φ K.ρ) : EffOk K σ P o a w eo := by
  unfold effCall at he
  split at he
  · rename_i S hS
    split at he
    · exact (RM.run_fail he).elim
    · rename_i hw
      obtain ⟨hw, hid'⟩ := own_cond hw (hid S hS)
      split at he
      · rename_i hpc
        have hMP := (hM f S hS).plain hw hpc
        split at he
        · rename_i q hq
          obtain ⟨he1, he2⟩ := hMP.row hq
          exact eff_row h hlen hargs hG ⟨he1, he2⟩ hrun he hn
        · rename_i hq
          obtain ⟨he1, he2⟩ := (hMP.of hq).fn hlt
          exact eff_call_core h hlen hargs hG hid' (pre := pre) (fun F ds hF hA hp => ⟨f, _, hrun (he1 _), he2 w F _ ds hF hA hp⟩) he hn
      · rename_i hpc
        split at he
        · rename_i p hp
          have hmem : ∀ {l : List (LoopSig × Nat)} {vs : List SV} {p : LoopSig × Nat}, pickL l vs = some p → p ∈ l := by
            intro l
            induction l with
            | nil => intro vs p h; cases h
            | cons q l ih =>
              intro vs p h
              unfold pickL at h
              split at h
              · simp only [Option.some.injEq] at h; subst h; exact List.mem_cons_self
              · exact List.mem_cons_of_mem _ (ih h)
          have hP := ((hM f S hS).proc hw hpc).2 p (hmem hp)
          exact eff_proc h hlen hargs hP (hrun (hP.1 _)) he hn
        · exact (RM.run_fail he).elim
  · exact (RM.run_fail he).elim

theorem eff_callV (h : Inv K σ gh a w) {c : Call} {x : Operand} (ho : o.op = .call c) (hc : c.callee = .value x) {G : X} (hG : (G.d K.Φ K.ρ).bool = true) {eo : EO} {sg : FuncId → Option Sig}
    {id : Nat} {ow : Bool} (hid : ∀ f S, ow = true → (strip G (σ.opd x)) = .c (.fn f []) → sg f = some S → ∀ i, i < oNs S.rs → σ.res[id + i]? = some none) (how : ow = true → ∃ f, strip G (σ.opd x) = .c (.fn f []))
    {pre : FuncId → List D → Prop} (hM : ∀ f S, sg f = some S → MeetsAt P f S pre K.Φ)
    (he : (effCallV sg G id ow (strip G (σ.opd x)) (c.args.toList.map fun x => strip G (σ.opd x)) c.argTypes.toList).run σ.res = some eo) (hn : ∀ n ∈ eo.nd, n.holds pre K.Φ K.ρ) : EffOk K σ P o a w eo := by
  have hx := strip_rel hG (h.opd x)
  unfold effCallV at he
  split at he
  · rename_i f caps hf
    rw [hf] at hx
    obtain ⟨vs, hv, hsz, hb⟩ := hx
    split at he
    · rename_i hlt
      have hlt : f < 20000 := by simpa using hlt
      have e : (c.args.toList.map a.eval ++ vs.toList).toArray = (c.args.toList.map a.eval).toArray ++ vs := by apply Array.ext'; simp
      refine eff_callAny h (vals := c.args.toList.map a.eval ++ vs.toList) ?_ ?_ hG (fun S hS ho' => by
          obtain ⟨f0, hf0⟩ := how ho'
          rw [hf] at hf0
          simp only [SV.c.injEq, SC.fn.injEq] at hf0
          obtain ⟨rfl, rfl⟩ := hf0
          exact hid f S ho' hf hS) hM hlt (fun henter => callV_run ho hc hv e (henter _)) he hn
      · simp [hsz]
      · intro j s v hs hv'
        by_cases hj : j < c.args.toList.length
        · rw [List.getElem?_append_left (by simpa using hj)] at hs hv'
          exact args_rel h hG c.args.toList j s v hs hv'
        · rw [List.getElem?_append_right (by simpa using Nat.le_of_not_lt hj)] at hs hv'
          simp only [List.length_map, List.getElem?_map, Option.map_eq_some_iff] at hs hv'
          obtain ⟨cp, hcp, rfl⟩ := hs
          obtain ⟨b, hb1, hb2⟩ := hb _ cp hcp
          refine ⟨b, hb1, ?_⟩
          rw [← hb2]
          have e : vs.toList[j - c.args.toList.length]? = some v := hv'
          rw [Array.getElem?_toList] at e
          rw [Array.getD_eq_getD_getElem?, e]
          rfl
    · exact (RM.run_fail he).elim
  · rename_i e hf
    rw [hf] at hx
    unfold effCall at he
    split at he
    · rename_i S hS
      split at he
      · exact (RM.run_fail he).elim
      · rename_i hw
        obtain ⟨hw, hid'⟩ := own_cond (Q := fun i => σ.res[id + i]? = some none) hw (by simp)
        split at he
        · rename_i hpc
          split at he
          · unfold effRow at he
            exact (RM.run_fail he).elim
          rename_i hq
          refine eff_call_core h (vals := a.eval x :: c.args.toList.map a.eval) (by simp) ?_ hG hid' (pre := pre) (fun F ds hF hA hp => ?_) he hn
          · intro j s v hs hv'
            cases j with
            | zero =>
              simp only [List.getElem?_cons_zero, Option.some.injEq] at hs hv'
              subst hs hv'
              exact hx
            | succ j => exact args_rel h hG c.args.toList j s v (by simpa using hs) (by simpa using hv')
          · obtain ⟨f, vs', hv, he1, he2⟩ := (((hM _ S hS).plain hw hpc).of hq).dyn (by simp [dynKey]) w F _ _ ds hF hA hp
            exact ⟨f, _, callV_run ho hc hv rfl (he1 w), he2⟩
        · rename_i hpc
          rcases hM _ S hS with h1 | h1 | h1
          · rw [h1] at hw; exact absurd rfl hw
          · rw [h1.1] at hpc; exact absurd rfl hpc
          · exact absurd h1.2.1 (Nat.not_lt.2 (Nat.le_add_right _ _))
    · exact (RM.run_fail he).elim
  · exact (RM.run_fail he).elim


end
end Go.RV
