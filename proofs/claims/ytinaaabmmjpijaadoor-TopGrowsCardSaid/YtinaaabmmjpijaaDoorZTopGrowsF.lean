/-
 RV, part 11c: calls of functions that write what their caller's pointers lead to.; RV, part 12: all operations in one; what an operation that isn't wanted leaves; of what an operation's effect depends.
-/
import Derived.Test.YtinaaabmmjpijaaDoorZTopGrowsE
namespace Go.RV
open Go.RowKit
def frameOf (n : Nat) (vs : List Value) : Act := { tmps := vs.toArray ++ Array.replicate (n - vs.toArray.size) undef, defers := [] }
def noAct : Act := { tmps := #[], defers := [] }
def ProcMeets (P : Program) (f : FuncId) (S : Sig) (L : LoopSig) (m : Nat) (pre : List D → Prop) (fn : List D → List D) : Prop :=
 (∀ (args : Array Value) (w : World), (callFunc f args).run P w = .ok (.enter f args) w) ∧
 ∀ (K : Ctx) (gh : Gh) (vs : List Value) (w : World), K.wok = (fun n => L.ws.contains n) → K.ρ.length = L.nv → pre K.ρ → vs.length = S.ps.length → Inv K L.head gh (frameOf L.head.slots.length vs) w →
  Calls P f vs.toArray w fun e w' => ∃ v vals outs gh' F', fn K.ρ = .i 0 :: (vals ++ outs) ∧ vals.length = L.wv.length ∧ e = .returned v ∧ ResRep w' F' S.rs v outs ∧
   Inv { K with ρ := setVars (K.ρ.take m) L.wv vals, gh0 := gh', a0 := noAct } ⟨[], L.head.res⟩ gh' noAct w' ∧ LoopLe L K.Pr gh gh'
def MeetsAt (P : Program) (f : FuncId) (S : Sig) (pre : FuncId → List D → Prop) (Φ : FuncId → List D → List D) : Prop :=
 S.w.isSome = true ∨ (S.pc.isEmpty = true ∧ MeetsP P f S (pre f) (Φ f)) ∨ (S.pc.isEmpty = false ∧ f < 20000 ∧ ∀ p ∈ S.pc, ProcMeets P f S p.1 p.2 (pre p.1.key) (Φ p.1.key))
section
variable {P : Program} {K : Ctx} {σ : St} {gh : Gh} {a : Act} {w : World} {o : Oper}
theorem MeetsAt.plain {f : FuncId} {S : Sig} {pre : FuncId → List D → Prop} {Φ : FuncId → List D → List D} (h : MeetsAt P f S pre Φ) (hw : ¬ S.w.isSome = true) (hp : S.pc.isEmpty = true) : MeetsP P f S (pre f) (Φ f) := by
 rcases h with h | h | h
 ·exact absurd h hw
 ·exact h.2
 ·rw [hp] at h; exact absurd h.1 (by simp)
theorem MeetsAt.proc {f : FuncId} {S : Sig} {pre : FuncId → List D → Prop} {Φ : FuncId → List D → List D} (h : MeetsAt P f S pre Φ) (hw : ¬ S.w.isSome = true) (hp : ¬ S.pc.isEmpty = true) : f < 20000 ∧ ∀ p ∈ S.pc, ProcMeets P f S p.1 p.2 (pre p.1.key) (Φ p.1.key) := by
 rcases h with h | h | h
 ·exact absurd h hw
 ·exact absurd h.1 hp
 ·exact h.2
theorem Inv.frame (h : Inv K σ gh a w) {sl : List SV} {a' : Act} (hd : a'.defers = []) (hsz : a'.tmps.size = sl.length) (hs : ∀ (n : Nat) s, sl[n]? = some s → SV.rel K.Φ K.ρ w gh s (a'.tmps.getD n undef)) {wok : Nat → Bool} {a0 : Act}
  (hk : ∀ n, wok n = false → a'.tmps.getD n undef = a0.tmps.getD n undef) : Inv { K with wok := wok, a0 := a0 } ⟨sl, σ.res⟩ gh a' w :=
 ⟨hd, hsz, hs, hk, h.os, h.tape, h.output, h.grow, h.pr, h.prlt, h.Flt, h.beta, h.vr0, h.res, h.own, h.inj, h.le0, h.Fpr, h.tab⟩
theorem readAll_run : ∀ {rs : List Nat} {k : List (Nat × Res) → RM} {eo : EO}, (readAll rs k).run σ.res = some eo → ∃ l, (k l).run σ.res = some eo ∧ l.map (·.1) = rs ∧ ∀ p ∈ l, σ.has p.1 p.2
 | [], k, eo, h => ⟨[], h, rfl, by simp⟩
 | r :: rs, k, eo, h => by
  unfold readAll at h
  obtain ⟨R, hR, h⟩ := RM.run_res h
  obtain ⟨l, h1, h2, h3⟩ := readAll_run h
  exact ⟨(r, R) :: l, h1, by simp [h2], fun p hp => by cases hp with | head => exact hR | tail _ hp => exact h3 p hp⟩
theorem resAt_get {l : List (Nat × Res)} {hs : List (Option Res)} (hl : l.map (·.1) = listedOf hs) (h : ∀ p ∈ l, σ.has p.1 p.2) {r : Nat} (hr : listed hs r = true) : (resAt l hs.length).getD r none = σ.res.getD r none := by
 obtain ⟨x, hx, _⟩ := listed_get hr
 have hlt : r < hs.length := (List.getElem?_eq_some_iff.1 hx).1
 have hmem : r ∈ l.map (·.1) := by rw [hl]; simp [listedOf, hlt, hr]
 obtain ⟨p, hp, rfl⟩ := List.mem_map.1 hmem
 have hf : ∃ q, l.find? (·.1 == p.1) = some q := by
  cases hq : l.find? (·.1 == p.1) with
  | some q => exact ⟨q, rfl⟩
  | none => have := List.find?_eq_none.1 hq p hp; simp at this
 obtain ⟨q, hq⟩ := hf
 have hq1 : q.1 = p.1 := by have := List.find?_some hq; simpa using this
 have hq2 : σ.has q.1 q.2 := h q (List.mem_of_find?_eq_some hq)
 unfold St.has at hq2
 rw [hq1] at hq2
 simp only [resAt, List.getD, List.getElem?_map, List.getElem?_range hlt, Option.map_some, Option.getD_some, hq, hq2]
theorem matchSC_congr {hs rs rs' : List (Option Res)} (h : ∀ r, listed hs r = true → rs.getD r none = rs'.getD r none) (s t : SC) : matchSC hs rs s t = matchSC hs rs' s t := by
 unfold matchSC
 split <;> try rfl
 ·rename_i r one r' ver
  by_cases hl : listed hs r = true
  ·rw [h r hl]
  ·simp [hl]
 ·rename_i r one m i off r' ver m' e off'
  by_cases hl : listed hs r = true
  ·rw [h r hl]
  ·simp [hl]
theorem matchSCs_congr {hs rs rs' : List (Option Res)} (h : ∀ r, listed hs r = true → rs.getD r none = rs'.getD r none) : ∀ (s t : List SC), matchSCs hs rs s t = matchSCs hs rs' s t
 | [], [] => rfl
 | [], _ :: _ => rfl
 | _ :: _, [] => rfl
 | a :: as, b :: bs => by simp only [matchSCs, matchSC_congr h a b, matchSCs_congr h as bs]
theorem matchSV_congr {hs rs rs' : List (Option Res)} (h : ∀ r, listed hs r = true → rs.getD r none = rs'.getD r none) (s t : SV) : matchSV hs rs s t = matchSV hs rs' s t := by
 unfold matchSV
 split <;> first | rfl | exact matchSC_congr h _ _ | exact matchSCs_congr h _ _
theorem matchSVs_congr {hs rs rs' : List (Option Res)} (h : ∀ r, listed hs r = true → rs.getD r none = rs'.getD r none) : ∀ (s t : List SV), matchSVs hs rs s t = matchSVs hs rs' s t
 | [], [] => rfl
 | [], _ :: _ => rfl
 | _ :: _, [] => rfl
 | a :: as, b :: bs => by simp only [matchSVs, matchSV_congr h a b, matchSVs_congr h as bs]
theorem matchRK_congr {hs rs rs' : List (Option Res)} (h : ∀ r, listed hs r = true → rs.getD r none = rs'.getD r none) (s t : RK) : matchRK hs rs s t = matchRK hs rs' s t := by
 unfold matchRK
 split <;> first | rfl | (split <;> first | rfl | exact matchSCs_congr h _ _)
theorem matchRess_congr {hs rs rs' : List (Option Res)} (h : ∀ r, listed hs r = true → rs.getD r none = rs'.getD r none) : ∀ (as bs bs' : List (Option Res)), as.length ≤ bs.length → as.length ≤ bs'.length → (∀ (r : Nat) y, as[r]? = some (some y) → bs.getD r none = bs'.getD r none) → matchRess hs rs as bs = matchRess hs rs' as bs'
 | [], _, _, _, _, _ => by simp [matchRess]
 | _ :: _, [], _, h1, _, _ => by simp at h1
 | _ :: _, _ :: _, [], _, h2, _ => by simp at h2
 | none :: as, b :: bs, b' :: bs', h1, h2, h3 => by
  have := matchRess_congr h as bs bs' (by simpa using h1) (by simpa using h2) (fun r y hy => by simpa using h3 (r + 1) y (by simpa using hy))
  cases b <;> cases b' <;> simpa [matchRess] using this
 | some y :: as, b :: bs, b' :: bs', h1, h2, h3 => by
  have h0 := h3 0 y rfl
  simp only [gz0] at h0
  subst h0
  have := matchRess_congr h as bs bs' (by simpa using h1) (by simpa using h2) (fun r y hy => by simpa using h3 (r + 1) y (by simpa using hy))
  cases b with
  | none => rfl
  | some b => simp only [matchRess, matchRK_congr h, this]
theorem setAll_get : ∀ {wr : List (Nat × Res)} {rs : List (Option Res)}, (∀ p ∈ wr, p.1 < rs.length) → (wr.map (·.1)).Nodup → ∀ r, (setAll rs wr)[r]? = match wr.find? (·.1 == r) with
  | some p => some (some p.2)
  | none => rs[r]?
 | [], rs, _, _, r => rfl
 | p :: wr, rs, h, hn, r => by
  simp only [List.map_cons, List.nodup_cons] at hn
  have ih := setAll_get (wr := wr) (rs := rs.set p.1 (some p.2)) (fun q hq => by rw [List.length_set]; exact h q (List.mem_cons_of_mem _ hq)) hn.2 r
  show (setAll (rs.set p.1 (some p.2)) wr)[r]? = _
  rw [ih, List.find?_cons]
  by_cases e : p.1 = r
  ·have hno : wr.find? (·.1 == r) = none := List.find?_eq_none.2 fun q hq => by
    simp only [beq_iff_eq]
    intro hqr
    exact hn.1 (List.mem_map.2 ⟨q, hq, by rw [hqr, e]⟩)
   rw [hno]
   have e' : (p.1 == r) = true := by simpa using e
   rw [e']
   simp only
   rw [e]
   exact getElem?_set_has (by rw [← e]; exact h p List.mem_cons_self)
  ·have e' : (p.1 == r) = false := by simpa using e
   rw [e']
   cases wr.find? (·.1 == r) with
   | some q => rfl
   | none => simp only; rw [List.getElem?_set, if_neg e]
theorem wrPr_zip {L : LoopSig} {xs : List X} {l : List (Nat × Res)} (hl : l.map (·.1) = listedOf L.head.res) (h : ∀ p ∈ l, σ.has p.1 p.2) (hlen : L.head.res.length ≤ σ.res.length) :
  setAll σ.res (wrPr L xs (resAt l L.head.res.length)) = zipRes (instRK (subOf L xs) (versOf L σ)) 0 L.head.res σ.res := by
 obtain ⟨z1, z2⟩ := zipRes_get (f := instRK (subOf L xs) (versOf L σ)) (k := 0) hlen
 have hv : versOf L ⟨[], resAt l L.head.res.length⟩ = versOf L σ := by
  funext r
  simp only [versOf]
  by_cases hr : listed L.head.res r = true
  ·rw [resAt_get (hs := L.head.res) hl h hr]
  ·have : L.head.res.getD r none = none := by
    unfold listed at hr
    cases hx : L.head.res.getD r none with
    | none => rfl
    | some z => rw [hx] at hr; simp at hr
   rw [this]
 have keys : (wrPr L xs (resAt l L.head.res.length)).map (·.1) = listedOf L.head.res := by
  unfold wrPr
  have : ∀ ks : List Nat, (∀ r ∈ ks, listed L.head.res r = true) → (ks.filterMap fun r => match L.head.res.getD r none with
    | some y => some (r, (⟨tt, instRK (subOf L xs) (versOf L ⟨[], resAt l L.head.res.length⟩) r y.k⟩ : Res))
    | none => none).map (·.1) = ks := by
   intro ks
   induction ks with
   | nil => intro _; rfl
   | cons r ks ih =>
    intro hk
    obtain ⟨y, _, hy⟩ := listed_get (hk r List.mem_cons_self)
    rw [List.filterMap_cons, hy]
    simp only [List.map_cons]
    rw [ih fun q hq => hk q (List.mem_cons_of_mem _ hq)]
  exact this _ fun r hr => (List.mem_filter.1 hr).2
 have nodup : ((wrPr L xs (resAt l L.head.res.length)).map (·.1)).Nodup := by
  rw [keys]; exact List.Pairwise.filter _ List.nodup_range
 have mem : ∀ p ∈ wrPr L xs (resAt l L.head.res.length), ∃ y, L.head.res[p.1]? = some (some y) ∧ p.2 = ⟨tt, instRK (subOf L xs) (versOf L σ) p.1 y.k⟩ := by
  intro p hp
  unfold wrPr at hp
  obtain ⟨r, hr, hp⟩ := List.mem_filterMap.1 hp
  have hr' := (List.mem_filter.1 hr).2
  obtain ⟨y, hy1, hy2⟩ := listed_get hr'
  rw [hy2] at hp
  simp only [si0] at hp
  subst hp
  exact ⟨y, hy1, by rw [hv]⟩
 apply List.ext_getElem?
 intro r
 rw [setAll_get (fun p hp => by
  obtain ⟨y, hy, _⟩ := mem p hp
  have := (List.getElem?_eq_some_iff.1 hy).1
  omega) nodup]
 cases hf : (wrPr L xs (resAt l L.head.res.length)).find? (·.1 == r) with
 | some p =>
  have hp1 : p.1 = r := by have := List.find?_some hf; simpa using this
  obtain ⟨y, hy, hp2⟩ := mem p (List.mem_of_find?_eq_some hf)
  rw [hp1] at hy hp2
  have := (z2 r).1 y hy
  rw [Nat.zero_add] at this
  rw [this, ← hp2]
 | none =>
  refine ((z2 r).2 fun y hy => ?_).symm
  have hlr := listed_of hy
  have hmem : r ∈ (wrPr L xs (resAt l L.head.res.length)).map (·.1) := by
   rw [keys]
   have := (List.getElem?_eq_some_iff.1 hy).1
   simp [listedOf, this, hlr]
  obtain ⟨p, hp, rfl⟩ := List.mem_map.1 hmem
  have := List.find?_eq_none.1 hf p hp
  simp at this
theorem zipSlots_nil {f : SV → SV} : ∀ {as bs : List SV} {k : Nat}, zipSlots [] f k as bs = bs
 | [], [], _ => rfl
 | [], _ :: _, _ => rfl
 | _ :: _, [], _ => rfl
 | a :: as, b :: bs, k => by simp [zipSlots, zipSlots_nil (as := as) (bs := bs)]
theorem sameX_eq : ∀ {as bs : List X}, sameX as bs = true → as = bs
 | [], [], _ => rfl
 | a :: as, b :: bs, h => by
  simp only [sameX, Bool.and_eq_true] at h
  rw [X.beq_eq _ _ h.1, sameX_eq h.2]
 | [], _ :: _, h => by cases h
 | _ :: _, [], h => by cases h
theorem anys_match {hs rs : List (Option Res)} : ∀ {sl : List SV}, matchSVs hs rs (anys sl.length) sl = some []
 | [] => rfl
 | s :: sl => by
  have ih := anys_match (hs := hs) (rs := rs) (sl := sl)
  have e : anys (s :: sl).length = .any :: anys sl.length := rfl
  rw [e]
  unfold matchSVs
  rw [ih]
  simp [matchSV]
theorem last_len {L : LoopSig} (h : lastSome L.head.res = true) {l : List (Nat × Res)} (hl : l.map (·.1) = listedOf L.head.res) (hh : ∀ p ∈ l, σ.has p.1 p.2) : L.head.res.length ≤ σ.res.length := by
 cases hn : L.head.res.length with
 | zero => omega
 | succ n =>
  have hne : L.head.res ≠ [] := by intro e; rw [e] at hn; cases hn
  have hg : L.head.res.getLast? = L.head.res[n]? := by rw [List.getLast?_eq_getElem?, hn]; rfl
  have hlt : n < L.head.res.length := by omega
  unfold lastSome at h
  rw [hg, List.getElem?_eq_getElem hlt] at h
  cases hx : L.head.res[n] with
  | none => rw [hx] at h; cases h
  | some y =>
   have hy : L.head.res[n]? = some (some y) := by rw [List.getElem?_eq_getElem hlt, hx]
   have hmem : n ∈ l.map (·.1) := by rw [hl]; simp [listedOf, hlt, listed_of hy]
   obtain ⟨p, hp, rfl⟩ := List.mem_map.1 hmem
   have := (List.getElem?_eq_some_iff.1 (hh p hp)).1
   omega
theorem eff_proc (h : Inv K σ gh a w) {f : FuncId} {S : Sig} {L : LoopSig} {m : Nat} {svs : List SV} {vals : List Value} (hlen : svs.length = vals.length) (hargs : ∀ (j : Nat) s v, svs[j]? = some s → vals[j]? = some v → SV.rel K.Φ K.ρ w gh s v)
  {G : X} {eo : EO} {pre : FuncId → List D → Prop} (hM : ProcMeets P f S L m (pre L.key) (K.Φ L.key)) (hrun : (execOp a.eval o).run P w = .ok (.enter f vals.toArray) w)
  (he : (effProc G S L m svs).run σ.res = some eo) (hn : ∀ n ∈ eo.nd, n.holds pre K.Φ K.ρ) : EffOk K σ P o a w eo := by
 unfold effProc at he
 split at he
 ·exact (RM.run_fail he).elim
 ·rename_i hc0
  simp only [Bool.not_eq_true, Bool.not_eq_false', Bool.and_eq_true] at hc0
  obtain ⟨l, he, hl, hh⟩ := readAll_run he
  have hrl := last_len hc0.2 hl hh
  have hag : ∀ r, listed L.head.res r = true → (resAt l L.head.res.length).getD r none = σ.res.getD r none := fun r hr => resAt_get hl hh hr
  have hag2 : ∀ (r : Nat) y, L.head.res[r]? = some (some y) → (resAt l L.head.res.length).getD r none = σ.res.getD r none := fun r y hy => hag r (listed_of hy)
  have hrsl : L.head.res.length ≤ (resAt l L.head.res.length).length := by simp [resAt]
  simp only at he
  split at he
  ·rename_i xs ys hx hy
   split at he
   ·rename_i hc
    simp only [Bool.and_eq_true, beq_iff_eq] at hc
    obtain ⟨⟨hc1, hsc⟩, hal⟩ := hc
    have hys := sameX_eq hc1
    split at he
    ·rename_i rv hrv
     have := RM.run_done he
     subst this
     have hx' : matchHead L.head L.nv ⟨svs ++ List.replicate (L.head.slots.length - svs.length) .und, σ.res⟩ = some xs := by
      rw [← hx]
      unfold matchHead
      rw [matchSVs_congr hag, matchRess_congr hag _ _ _ hrsl hrl hag2]
     have hy' : matchHead ⟨anys σ.slots.length, L.head.res⟩ m σ = some ys := by
      rw [← hy]
      unfold matchHead
      simp only
      rw [anys_match, matchRess_congr hag _ _ _ hrsl hrl hag2]
      rfl
     obtain ⟨lx, mx, hkx⟩ := match_ok hx'
     obtain ⟨ly, my, hky⟩ := match_ok hy'
     have hlx := hkx.len
     have hly := hky.len
     have hmle : m ≤ xs.length := by
      have := congrArg List.length hys
      rw [List.length_take, hly] at this
      omega
     let fr : Act := frameOf L.head.slots.length vals
     let K1 : Ctx := { K with wok := fun _ => true, a0 := fr }
     let τ : St := ⟨svs ++ List.replicate (L.head.slots.length - svs.length) .und, σ.res⟩
     obtain ⟨sl1, _⟩ := matchSVs_get hkx.slots
     have hτ : Inv K1 τ gh fr w := by
      refine h.frame rfl ?_ (fun n s hs => ?_) (fun n hn => by cases hn)
      ·simp [fr, frameOf, hlen]
      ·by_cases hlt : n < svs.length
       ·rw [List.getElem?_append_left hlt] at hs
        have hv : vals[n]? = some vals[n] := List.getElem?_eq_getElem (by omega)
        have := hargs n s _ hs hv
        have e : fr.tmps.getD n undef = vals[n] := by
         simp only [fr, frameOf, Array.getD_eq_getD_getElem?]
         rw [Array.getElem?_append_left (by simp; omega)]
         simp [hv]
        rw [e]
        exact this
       ·rw [List.getElem?_append_right (by omega), List.getElem?_replicate] at hs
        split at hs
        ·simp only [si0] at hs
         subst hs
         show fr.tmps.getD n undef = undef
         simp only [fr, frameOf, Array.getD_eq_getD_getElem?]
         rw [Array.getElem?_append_right (by simp; omega), Array.getElem?_replicate]
         split <;> rfl
        ·cases hs
     have hI := loop_enter hτ hx'
     have hpre : pre L.key ((consX xs).ds K.Φ K.ρ) := hn (.pre L.key (consX xs)) (by simp)
     rw [ds_consX] at hpre
     have hcall := hM.2 (loopCtx K1 L xs τ gh fr w) (gh.cut L.head.res) vals w rfl (by simp [loopCtx, hlx]) hpre (by rw [← hlen]; exact hal) hI
     refine Does.enter hrun (hcall.mono fun e w' ⟨v, vs2, outs, gh', F', hfn, hvl, hev, hres, hfin, hle⟩ => ⟨v, hev, ?_⟩)
     have hfn' : K.Φ L.key (xs.map (X.d K.Φ K.ρ)) = .i 0 :: (vs2 ++ outs) := hfn
     let L' : LoopSig := { L with head := ⟨anys σ.slots.length, L.head.res⟩, nv := m, ws := [] }
     let K' : Ctx := { loopCtx K1 L xs τ gh fr w with ρ := setVars ((xs.map (X.d K.Φ K.ρ)).take m) L.wv vs2, gh0 := gh', wok := fun n => L'.ws.contains n, a0 := a }
     have hL : Inv K' L'.head gh' a w' := hfin.frame h.defers (by rw [h.size]; simp [anys]) (fun n s hs => by
      have : s = .any := by
       have hs' : (List.replicate σ.slots.length SV.any)[n]? = some s := hs
       rw [List.getElem?_replicate] at hs'
       split at hs'
       ·simpa using hs'.symm
       ·cases hs'
      subst this
      trivial) (fun n _ => rfl)
     have hsub : ∀ i, i < L'.nv → (subOf L xs i).d K.Φ K.ρ = K'.ρ.getD i default := by
      intro i hi
      have hi' : i < ((xs.map (X.d K.Φ K.ρ)).take m).length := by rw [List.length_take, lm0]; have : i < m := hi; omega
      show _ = (setVars ((xs.map (X.d K.Φ K.ρ)).take m) L.wv vs2).getD i default
      rw [setVars_get _ _ _ hi']
      unfold subOf
      cases hpi : posIn i L.wv with
      | some j =>
       have hj := (List.getElem?_eq_some_iff.1 (posIn_get hpi)).1
       simp only [X.d, ds_consX, hfn', gs0]
       simp only [List.getD]
       rw [List.getElem?_append_left (by omega)]
      | none =>
       have hix : i < xs.length := by have : i < m := hi; omega
       simp only [List.getD, List.getElem?_take, List.getElem?_map, List.getElem?_eq_getElem hix, Option.map_some, Option.getD_some, if_pos (show i < m from hi)]
     obtain ⟨r1, r2⟩ := leave_with h (L := L') hy' rfl (K' := K') rfl (sub := subOf L xs) hsub rfl rfl rfl rfl hL ⟨hle.β, hle.F, hle.Fn, hle.rv⟩
     refine ⟨afterGh L' σ gh gh', ?_, resSV_rel (gh := afterGh L' σ gh gh') hrv (hres.scalar hsc) fun i hi => ?_⟩
     ·have e : afterWith L' (subOf L xs) σ = ⟨σ.slots, setAll σ.res (wrPr L xs (resAt l L.head.res.length))⟩ := by
       unfold afterWith
       rw [wrPr_zip hl hh hrl]
       congr 1
       exact zipSlots_nil
      rw [e] at r1
      exact r1
     ·simp only [X.d, ds_consX, hfn']
      rw [show L.wv.length + 1 + i = (L.wv.length + i) + 1 by omega, gs0]
      simp only [List.getD]
      rw [List.getElem?_append_right (by omega)]
      congr 2
      omega
    ·exact (RM.run_fail he).elim
   ·exact (RM.run_fail he).elim
  ·exact (RM.run_fail he).elim
variable {sg : FuncId → Option Sig}
theorem own_cond {S : Sig} {ow : Bool} {Q : Nat → Prop} (h : ¬ (S.w.isSome || !(ow || oNs S.rs == 0)) = true) (hq : ow = true → ∀ i, i < oNs S.rs → Q i) : ¬ S.w.isSome = true ∧ ∀ i, i < oNs S.rs → Q i := by
 simp only [Bool.or_eq_true, Bool.not_eq_true', Bool.or_eq_false_iff, not_or, not_and, Bool.not_eq_false] at h
 refine ⟨h.1, fun i hi => ?_⟩
 cases ow with
 | true => exact hq rfl i hi
 | false => have := h.2 rfl; simp at this; omega
theorem eff_callAny (h : Inv K σ gh a w) {f : FuncId} {svs : List SV} {vals : List Value} (hlen : svs.length = vals.length) (hargs : ∀ (j : Nat) s v, svs[j]? = some s → vals[j]? = some v → SV.rel K.Φ K.ρ w gh s v) {G : X} (hG : (G.d K.Φ K.ρ).bool = true) {eo : EO} {id : Nat} {ow : Bool} (hid : ∀ S, sg f = some S → ow = true → ∀ i, i < oNs S.rs → σ.res[id + i]? = some none)
  {pre : FuncId → List D → Prop} (hM : ∀ f S, sg f = some S → MeetsAt P f S pre K.Φ) (hlt : f < 20000) (hrun : (∀ w, (callFunc f vals.toArray).run P w = .ok (.enter f vals.toArray) w) → (execOp a.eval o).run P w = .ok (.enter f vals.toArray) w)
  (he : (effCall sg G id ow f svs).run σ.res = some eo) (hn : ∀ n ∈ eo.nd, n.holds pre K.Φ K.ρ) : EffOk K σ P o a w eo := by
 unfold effCall at he
 split at he
 ·rename_i S hS
  split at he
  ·exact (RM.run_fail he).elim
  ·rename_i hw
   obtain ⟨hw, hid'⟩ := own_cond hw (hid S hS)
   split at he
   ·rename_i hpc
    have hMP := (hM f S hS).plain hw hpc
    split at he
    ·rename_i q hq
     obtain ⟨he1, he2⟩ := hMP.row hq
     exact eff_row h hlen hargs hG ⟨he1, he2⟩ hrun he hn
    ·rename_i hq
     obtain ⟨he1, he2⟩ := (hMP.of hq).fn hlt
     exact eff_call_core h hlen hargs hG hid' (pre := pre) (fun F ds hF hT hA hp => ⟨f, _, hrun (he1 _), he2 w F _ ds hF hT hA hp⟩) he hn
   ·rename_i hpc
    split at he
    ·rename_i p hp
     have hmem : ∀ {l : List (LoopSig × Nat)} {vs : List SV} {p : LoopSig × Nat}, pickL l vs = some p → p ∈ l := by
      intro l
      induction l with
      | nil => intro vs p h; cases h
      | cons q l ih =>
       intro vs p h
       unfold pickL at h
       split at h
       ·simp only [si0] at h; subst h; exact List.mem_cons_self
       ·exact List.mem_cons_of_mem _ (ih h)
     have hP := ((hM f S hS).proc hw hpc).2 p (hmem hp)
     exact eff_proc h hlen hargs hP (hrun (hP.1 _)) he hn
    ·exact (RM.run_fail he).elim
 ·exact (RM.run_fail he).elim
theorem eff_callV (h : Inv K σ gh a w) {c : Call} {x : Operand} (ho : o.op = .call c) (hc : c.callee = .value x) {G : X} (hG : (G.d K.Φ K.ρ).bool = true) {eo : EO} {sg : FuncId → Option Sig}
  {id : Nat} {ow : Bool} (hid : ∀ f S, ow = true → (strip G (σ.opd x)) = .c (.fn f []) → sg f = some S → ∀ i, i < oNs S.rs → σ.res[id + i]? = some none) (how : ow = true → ∃ f, strip G (σ.opd x) = .c (.fn f []))
  {pre : FuncId → List D → Prop} (hM : ∀ f S, sg f = some S → MeetsAt P f S pre K.Φ)
  (he : (effCallV sg G id ow (strip G (σ.opd x)) (c.args.toList.map fun x => strip G (σ.opd x)) c.argTypes.toList).run σ.res = some eo) (hn : ∀ n ∈ eo.nd, n.holds pre K.Φ K.ρ) : EffOk K σ P o a w eo := by
 have hx := strip_rel hG (h.opd x)
 unfold effCallV at he
 split at he
 ·rename_i f caps hf
  rw [hf] at hx
  obtain ⟨vs, hv, hsz, hb⟩ := hx
  split at he
  ·rename_i hlt
   have hlt : f < 20000 := by simpa using hlt
   have e : (c.args.toList.map a.eval ++ vs.toList).toArray = (c.args.toList.map a.eval).toArray ++ vs := by apply Array.ext'; simp
   refine eff_callAny h (vals := c.args.toList.map a.eval ++ vs.toList) ?_ ?_ hG (fun S hS ho' => by
     obtain ⟨f0, hf0⟩ := how ho'
     rw [hf] at hf0
     simp only [SV.c.injEq, SC.fn.injEq] at hf0
     obtain ⟨rfl, rfl⟩ := hf0
     exact hid f S ho' hf hS) hM hlt (fun henter => callV_run ho hc hv e (henter _)) he hn
   ·simp [hsz]
   ·intro j s v hs hv'
    by_cases hj : j < c.args.toList.length
    ·rw [List.getElem?_append_left (by simpa using hj)] at hs hv'
     exact args_rel h hG c.args.toList j s v hs hv'
    ·rw [List.getElem?_append_right (by simpa using Nat.le_of_not_lt hj)] at hs hv'
     simp only [lm0, List.getElem?_map, Option.map_eq_some_iff] at hs hv'
     obtain ⟨cp, hcp, rfl⟩ := hs
     obtain ⟨b, hb1, hb2⟩ := hb _ cp hcp
     refine ⟨b, hb1, ?_⟩
     rw [← hb2]
     have e : vs.toList[j - c.args.toList.length]? = some v := hv'
     rw [Array.getElem?_toList] at e
     rw [Array.getD_eq_getD_getElem?, e]
     rfl
  ·exact (RM.run_fail he).elim
 ·rename_i e hf
  rw [hf] at hx
  unfold effCall at he
  split at he
  ·rename_i S hS
   split at he
   ·exact (RM.run_fail he).elim
   ·rename_i hw
    obtain ⟨hw, hid'⟩ := own_cond (Q := fun i => σ.res[id + i]? = some none) hw (by simp)
    split at he
    ·rename_i hpc
     split at he
     ·unfold effRow at he
      exact (RM.run_fail he).elim
     rename_i hq
     refine eff_call_core h (vals := a.eval x :: c.args.toList.map a.eval) (by simp) ?_ hG hid' (pre := pre) (fun F ds hF hT hA hp => ?_) he hn
     ·intro j s v hs hv'
      cases j with
      | zero =>
       simp only [List.getElem?_cons_zero, si0] at hs hv'
       subst hs hv'
       exact hx
      | succ j => exact args_rel h hG c.args.toList j s v (by simpa using hs) (by simpa using hv')
     ·obtain ⟨f, vs', hv, he1, he2⟩ := (((hM _ S hS).plain hw hpc).of hq).dyn (by simp [dynKey]) w F _ _ ds hF hT hA hp
      exact ⟨f, _, callV_run ho hc hv rfl (he1 w), he2⟩
    ·rename_i hpc
     rcases hM _ S hS with h1 | h1 | h1
     ·rw [h1] at hw; exact absurd rfl hw
     ·rw [h1.1] at hpc; exact absurd rfl hpc
     ·exact absurd h1.2.1 (Nat.not_lt.2 (Nat.le_add_right _ _))
  ·exact (RM.run_fail he).elim
 ·exact (RM.run_fail he).elim
end
end Go.RV
namespace Go.RV
open Go.RowKit
section
variable {P : Program} {K : Ctx} {σ : St} {gh : Gh} {a : Act} {w : World} {o : Oper}
theorem eff_bin (h : Inv K σ gh a w) {op : BinOp} {t t' : TypeId} {x y : Operand} (ho : o.op = .binOp op t x y t') {G : X} (hG : (G.d K.Φ K.ρ).bool = true) {eo : EO} {pre : FuncId → List D → Prop}
  (he : (effBin P op t (strip G (σ.opd x)) (strip G (σ.opd y))).run σ.res = some eo) (hn : ∀ n ∈ eo.nd, n.holds pre K.Φ K.ρ) : EffOk K σ P o a w eo := by
 have hx := strip_rel hG (h.opd x)
 have hy := strip_rel hG (h.opd y)
 generalize strip G (σ.opd x) = sx at *
 generalize strip G (σ.opd y) = sy at *
 match sx, sy with
 | .c (.x (.int k) ex), .c (.x (.int k') ey) => exact eff_bin_int h ho hx hy he hn
 | .c (.x .bool ex), .c (.x .bool ey) => exact eff_bin_bool h ho hx hy he
 | .c (.x .str ex), .c (.x .str ey) => exact eff_bin_str h ho hx hy he
 | .agg cs, .agg cs' => exact eff_bin_agg h ho hx hy he
 | .c (.x (.int _) _), .c (.x .bool _) | .c (.x (.int _) _), .c (.x .str _) | .c (.x (.int _) _), .c (.x (.sl _ _) _) | .c (.x (.int _) _), .c (.x (.pt _) _) | .c (.x (.int _) _), .c (.x .clo _) => exact (RM.run_fail he).elim
 | .c (.x .bool _), .c (.x (.int _) _) | .c (.x .bool _), .c (.x .str _) | .c (.x .bool _), .c (.x (.sl _ _) _) | .c (.x .bool _), .c (.x (.pt _) _) | .c (.x .bool _), .c (.x .clo _) => exact (RM.run_fail he).elim
 | .c (.x .str _), .c (.x (.int _) _) | .c (.x .str _), .c (.x .bool _) | .c (.x .str _), .c (.x (.sl _ _) _) | .c (.x .str _), .c (.x (.pt _) _) | .c (.x .str _), .c (.x .clo _) => exact (RM.run_fail he).elim
 | .c (.x (.sl _ _) _), _ | .c (.x (.pt _) _), _ | .c (.x .clo _), _ | .c (.ptr _ _), _ | .c (.ea ..), _ | .c (.pa ..), _ | .c (.row ..), _ | .c (.ra ..), _ | .c (.da ..), _ | .c (.dr ..), _ | .c (.pdr ..), _ | .c (.fn ..), _ | .c (.cst _), _ | .c .any, _ => exact (RM.run_fail he).elim
 | .tup _, _ | .grd _ _, _ | .und, _ | .any, _ => exact (RM.run_fail he).elim
 | .c (.x (.int _) _), .agg _ | .c (.x (.int _) _), .tup _ | .c (.x (.int _) _), .grd _ _ | .c (.x (.int _) _), .und | .c (.x (.int _) _), .any => exact (RM.run_fail he).elim
 | .c (.x .bool _), .agg _ | .c (.x .bool _), .tup _ | .c (.x .bool _), .grd _ _ | .c (.x .bool _), .und | .c (.x .bool _), .any => exact (RM.run_fail he).elim
 | .c (.x .str _), .agg _ | .c (.x .str _), .tup _ | .c (.x .str _), .grd _ _ | .c (.x .str _), .und | .c (.x .str _), .any => exact (RM.run_fail he).elim
 | .agg _, .c _ | .agg _, .tup _ | .agg _, .grd _ _ | .agg _, .und | .agg _, .any => exact (RM.run_fail he).elim
 | .c (.x (.int _) _), .c (.ptr _ _) | .c (.x (.int _) _), .c (.ea ..) | .c (.x (.int _) _), .c (.pa ..) | .c (.x (.int _) _), .c (.row ..) | .c (.x (.int _) _), .c (.ra ..) | .c (.x (.int _) _), .c (.da ..) | .c (.x (.int _) _), .c (.dr ..) | .c (.x (.int _) _), .c (.pdr ..) | .c (.x (.int _) _), .c (.fn ..) | .c (.x (.int _) _), .c (.cst _) | .c (.x (.int _) _), .c .any => exact (RM.run_fail he).elim
 | .c (.x .bool _), .c (.ptr _ _) | .c (.x .bool _), .c (.ea ..) | .c (.x .bool _), .c (.pa ..) | .c (.x .bool _), .c (.row ..) | .c (.x .bool _), .c (.ra ..) | .c (.x .bool _), .c (.da ..) | .c (.x .bool _), .c (.dr ..) | .c (.x .bool _), .c (.pdr ..) | .c (.x .bool _), .c (.fn ..) | .c (.x .bool _), .c (.cst _) | .c (.x .bool _), .c .any => exact (RM.run_fail he).elim
 | .c (.x .str _), .c (.ptr _ _) | .c (.x .str _), .c (.ea ..) | .c (.x .str _), .c (.pa ..) | .c (.x .str _), .c (.row ..) | .c (.x .str _), .c (.ra ..) | .c (.x .str _), .c (.da ..) | .c (.x .str _), .c (.dr ..) | .c (.x .str _), .c (.pdr ..) | .c (.x .str _), .c (.fn ..) | .c (.x .str _), .c (.cst _) | .c (.x .str _), .c .any => exact (RM.run_fail he).elim
variable {sg : FuncId → Option Sig}
theorem rsBeq_eq : ∀ {as bs : List (Bool × List CT)}, rsBeq as bs = true → as = bs
 | [], [], _ => rfl
 | a :: as, b :: bs, h => by
  simp only [rsBeq, Bool.and_eq_true, beq_iff_eq] at h
  rw [rsBeq_eq h.2]
  have := CT.beqs_eq _ _ h.1.2
  rw [show a = b from Prod.ext h.1.1 this]
 | [], _ :: _, h => by cases h
 | _ :: _, [], h => by cases h
theorem psels_ds {e : X} {t0 : TypeId} {cts0 : List CT} {xs : List D} (hd : e.d K.Φ K.ρ = .c t0 cts0 xs) {n : Nat} (hn : xs.length = n) : (consX (psels e n)).ds K.Φ K.ρ = xs := by
 rw [ds_consX]
 apply List.ext_getElem?
 intro j
 simp only [psels, List.map_map, List.getElem?_map]
 by_cases hj : j < n
 ·rw [List.getElem?_range hj, List.getElem?_eq_getElem (by omega)]
  simp only [Option.map_some, Function.comp, X.d, hd, D.ptd, si0]
  simp [List.getD, List.getElem?_eq_getElem (show j < xs.length by omega)]
 ·rw [List.getElem?_eq_none (by simpa using hj), List.getElem?_eq_none (by omega)]
  rfl
theorem invOf_spec {rs : List (Bool × List CT)} {e : X} {t0 : TypeId} {cts0 : List CT} {xs : List D} (hd : e.d K.Φ K.ρ = .c t0 cts0 xs) (hlen : xs.length = cts0.length) {pre : FuncId → List D → Prop} :
  ∀ {l : List (TypeId × FuncId)} {mk : Nat → X} {nds : List Nd}, invOf sg rs e l = some (mk, nds) → ((anyTag e l).d K.Φ K.ρ).bool = true → (∀ n ∈ nds, n.holds pre K.Φ K.ρ) →
  ∃ f S, (t0, f) ∈ l ∧ sg f = some S ∧ S.ps = [(true, cts0)] ∧ S.rs = rs ∧ S.pc.isEmpty = true ∧ ¬ S.w.isSome = true ∧ f < 20000 ∧ oNs S.rs = 0 ∧ pre f xs ∧ ∀ j, (mk j).d K.Φ K.ρ = (K.Φ f xs).getD j default
 | [], mk, nds, _, ha, _ => by simp [anyTag, X.d] at ha
 | (t, f) :: l, mk, nds, h, ha, hn => by
  have htag : ((X.un (.tag t) e).d K.Φ K.ρ) = .b (t0 == t) := by simp only [X.d, Op1.ev, hd]; rfl
  unfold invOf at h
  split at h
  ·rename_i S mk' nds' hs hi
   split at h
   ·rename_i cts hps
    split at h
    ·rename_i hc
     simp only [Bool.and_eq_true, Bool.not_eq_true'] at hc
     obtain ⟨⟨⟨⟨hc1, hc2⟩, hc3⟩, hc4⟩, hc5⟩ := hc
     simp only [si0, Prod.mk.injEq] at h
     obtain ⟨rfl, rfl⟩ := h
     by_cases ht : t0 = t
     ·subst ht
      have hct := hn (.ct (.un (.tag t0) e) cts e) (by simp) (by rw [htag]; simp)
      obtain ⟨t', xs', hct⟩ := hct
      rw [hd] at hct
      simp only [D.c.injEq] at hct
      obtain ⟨_, rfl, rfl⟩ := hct
      have hpg := hn (.pg (.un (.tag t0) e) f (consX (psels e cts0.length))) (by simp) (by rw [htag]; simp)
      rw [psels_ds hd hlen] at hpg
      refine ⟨f, S, by simp, hs, hps, rsBeq_eq hc3, hc1, by simp [hc2], (Nat.le_of_ble_eq_true hc4 : f + 1 ≤ 20000), by simpa using hc5, hpg, fun j => ?_⟩
      show (if ((X.un (.tag t0) e).d K.Φ K.ρ).bool = true then (X.app f (consX (psels e cts0.length)) j).d K.Φ K.ρ else _) = _
      rw [htag]
      simp only [beq_self_eq_true, D.bool_b, if_true, X.d, psels_ds hd hlen]
     ·have ha' : ((anyTag e l).d K.Φ K.ρ).bool = true := by
       have : (if ((X.un (.tag t) e).d K.Φ K.ρ).bool = true then (X.t true).d K.Φ K.ρ else (anyTag e l).d K.Φ K.ρ).bool = true := ha
       rw [htag, beq_false_of_ne ht] at this
       simpa using this
      obtain ⟨f', S', h1, h2, h3, h4, h5, h6, h7, h70, h8, h9⟩ := invOf_spec hd hlen hi ha' fun n hn' => hn n (by simp [hn'])
      refine ⟨f', S', by simp [h1], h2, h3, h4, h5, h6, h7, h70, h8, fun j => ?_⟩
      show (if ((X.un (.tag t) e).d K.Φ K.ρ).bool = true then _ else (mk' j).d K.Φ K.ρ) = _
      rw [htag, beq_false_of_ne ht]
      simpa using h9 j
    ·cases h
   ·cases h
  ·cases h
theorem methF_run {name : String} {t : TypeId} {f : FuncId} (h : methF P name t = some f) (vs : Array Value) (w : World) : (method (P.types.size + Made.depth) t (.agg vs) name).run P w = .ok (f, .agg vs) w := by
 have hdep : P.types.size + Made.depth = (P.types.size + Made.depth - 1) + 1 := by
  have : 0 < Made.depth := by decide
  omega
 unfold methF at h
 split at h
 ·rename_i i hi
  split at h
  ·rename_i m hm
   split at h
   ·rename_i f' hf
    split at h
    ·rename_i fs hu
     split at h
     ·rename_i hp
      simp only [si0] at h
      subst h
      have hp' : m.path.toList = [] := by simpa using hp
      have hti : (typeInfo t).run P w = .ok i w := by simp [typeInfo, hi]
      rw [hdep]
      simp only [method, Sem.run_bind, hti, Result.andThen_ok, hm, hp', follow, Sem.run_pure, hf, receiverAt, run_underlying hu, Place.get]
     ·cases h
    ·cases h
   ·cases h
  ·cases h
 ·cases h
theorem mem_cands {name : String} {t : TypeId} {f : FuncId} (h : (t, f) ∈ cands P name) : methF P name t = some f := by
 unfold cands at h
 obtain ⟨t', _, h⟩ := List.mem_filterMap.1 h
 simp only [Option.map_eq_some_iff, Prod.mk.injEq] at h
 obtain ⟨f', h1, rfl, rfl⟩ := h
 exact h1
theorem repL_of {F : Nat → Prop} : ∀ {cts : List CT} {vs : List Value} {ds : List D}, vs.length = cts.length → ds.length = cts.length → (∀ j ct, cts[j]? = some ct → Rep w F ct (vs.getD j undef) (ds.getD j default)) → RepL w F cts vs ds
 | [], [], [], _, _, _ => trivial
 | ct :: cts, v :: vs, d :: ds, h1, h2, h3 => ⟨h3 0 ct rfl, repL_of (by simpa using h1) (by simpa using h2) fun j ct hj => by simpa using h3 (j + 1) ct (by simpa using hj)⟩
 | [], _ :: _, _, h1, _, _ => by simp at h1
 | [], [], _ :: _, _, h2, _ => by simp at h2
 | _ :: _, [], _, h1, _, _ => by simp at h1
 | _ :: _, _ :: _, [], _, h2, _ => by simp at h2
theorem eff_invoke (h : Inv K σ gh a w) {c : Call} {recv : Operand} {name : String} (ho : o.op = .call c) (hc : c.callee = .invoke recv name) (hargs : c.args.isEmpty = true) {G : X} (hG : (G.d K.Φ K.ρ).bool = true) {eo : EO} {pre : FuncId → List D → Prop}
  (hM : ∀ f S, sg f = some S → MeetsAt P f S pre K.Φ) (he : (effInvoke P sg (strip G (σ.opd recv)) name).run σ.res = some eo) (hn : ∀ n ∈ eo.nd, n.holds pre K.Φ K.ρ) : EffOk K σ P o a w eo := by
 have hx := strip_rel hG (h.opd recv)
 unfold effInvoke at he
 split at he
 ·rename_i e hs
  rw [hs] at hx
  split at he
  ·rename_i t f l hcd
   split at he
   ·split at he
    ·rename_i S hS _ _ mk nds hinv
     split at he
     ·rename_i v hv
      have he := RM.run_done he; subst he
      obtain ⟨t0, vs, cts0, xs, hev, hd, l1, l2, l3⟩ := rep_ifc (show Rep w gh.F .ifc (a.eval recv) (e.d K.Φ K.ρ) from hx)
      obtain ⟨f', S', m1, m2, m3, m4, m5, m6, m7, m70, m8, m9⟩ := invOf_spec hd l2 hinv (hn (.c _) (by simp)) fun n hn' => hn n (by simp [hn'])
      have hmeets := (((hM f' S' m2).plain m6 m5).of (by unfold rowOf; rw [m3])).fn m7
      have hrun : (execOp a.eval o).run P w = .ok (.enter f' #[.agg vs]) w := by
       have hae : c.args = #[] := by simpa using hargs
       have hmf := methF_run (mem_cands (by rw [hcd]; exact m1)) vs w
       simp only [execOp, ho, resolve, hc, hae, Sem.run_bind, Sem.run_pure, Result.andThen_ok, invoke]
       simp [callMethod, hev, hmf, hmeets.1]
      have hA : ArgsRep w gh.F S'.ps [.agg vs] xs := by
       rw [m3]
       refine ⟨xs, [], by simp, ⟨vs.toList, by simp, repL_of (by simpa using l1) l2 fun j ct hj => ?_⟩, rfl⟩
       have e1 : vs.toList.getD j undef = vs.getD j undef := by simp [List.getD, Array.getD_eq_getD_getElem?]
       rw [e1]; exact l3 j ct hj
      have hcalls := hmeets.2 w gh.F [.agg vs] xs h.Flt h.tab hA m8
      rw [m4] at hcalls
      rw [m4] at m70
      refine Does.enter hrun (hcalls.mono fun e' w' ⟨u, F', us, hev', hres, hnew, hF1, hF2, hB⟩ => ⟨u, hev', ?_⟩)
      obtain ⟨gh', hI', hrel⟩ := call_after h hB hF1 hF2 hG (id := 0) (fun i hi => by omega) hres hnew (fun i _ => m9 i) hv
      rw [ownWr_nil m70] at hI'
      exact ⟨gh', hI', hrel⟩
     ·exact (RM.run_fail he).elim
    ·exact (RM.run_fail he).elim
   ·exact (RM.run_fail he).elim
  ·exact (RM.run_fail he).elim
 ·exact (RM.run_fail he).elim
theorem eff_ok (h : Inv K σ gh a w) {G : X} (hG : (G.d K.Φ K.ρ).bool = true) {id : Nat} (hids : ∀ i, i < makes sg o.op → σ.res[id + i]? = some none) {eo : EO} {pre : FuncId → List D → Prop}
  (hM : ∀ f S, sg f = some S → MeetsAt P f S pre K.Φ) (he : (eff P sg G id (fun x => strip G (σ.opd x)) o.op).run σ.res = some eo) (hn : ∀ n ∈ eo.nd, n.holds pre K.Φ K.ρ) : EffOk K σ P o a w eo := by
 have hid : makes sg o.op = 1 → σ.res[id]? = some none := fun e => by simpa using hids 0 (by omega)
 unfold eff at he
 split at he
 ·exact eff_move h (.inl (by assumption)) hG he
 ·exact eff_move h (.inr (by assumption)) hG he
 ·exact eff_pick h (by assumption) hG he
 ·rename_i e ho
  split at he
  ·have := RM.run_done he; subst this
   exact eff_alloc h ho hG (hid (by rw [ho]; rfl)) (by assumption)
  ·exact (RM.run_fail he).elim
 ·rename_i e x ho
  split at he
  ·split at he
   ·have := RM.run_done he; subst this
    exact eff_box h ho hG (hid (by rw [ho]; rfl)) (by assumption) (by assumption)
   ·exact (RM.run_fail he).elim
  ·exact (RM.run_fail he).elim
 ·exact eff_build h (by assumption) hG he
 ·rename_i t n ps ho
  exact eff_buildSlice h ho hG (hid (by rw [ho]; rfl)) he
 ·exact eff_load h (by assumption) hG he
 ·exact eff_store h (by assumption) hG he
 ·exact eff_nilCheck h (by assumption) hG he hn
 ·exact eff_bin h (by assumption) hG he hn
 ·exact eff_un h (by assumption) hG he
 ·exact eff_convertB h (by assumption) hG he
 ·exact eff_fieldAddr h (by assumption) hG he
 ·exact eff_field h (by assumption) hG he
 ·exact eff_indexAddr h (by assumption) hG he hn
 ·exact eff_index h (by assumption) hG he hn
 ·exact eff_extract h (by assumption) hG he
 ·rename_i t l c ho
  exact eff_makeSlice h ho hG (hid (by rw [ho]; rfl)) he hn
 ·exact eff_slice h (by assumption) hG he hn
 ·exact eff_makeIface h (by assumption) hG he
 ·exact eff_typeAssert h (by assumption) hG he hn
 ·exact eff_makeFunc h (by assumption) hG he
 ·rename_i c ho
  split at he
  ·split at he
   ·exact eff_len h ho (by assumption) (by assumption) (by assumption) hG he
   ·exact (RM.run_fail he).elim
  ·split at he
   ·split at he
    ·exact eff_minmax h ho (mx := false) (by assumption) hG (by assumption) (by assumption) he
    ·exact (RM.run_fail he).elim
   ·exact (RM.run_fail he).elim
  ·split at he
   ·split at he
    ·exact eff_minmax h ho (mx := true) (by assumption) hG (by assumption) (by assumption) he
    ·exact (RM.run_fail he).elim
   ·exact (RM.run_fail he).elim
  ·rename_i hc
   split at he
   ·rename_i s x t t' hx ht
    split at he
    ·rename_i htt
     simp only [beq_iff_eq] at htt
     subst htt
     have hmk : makes sg o.op = 1 := by
      obtain ⟨callee, args, argTypes⟩ := c
      simp only at hc
      subst hc
      rw [ho]
      rfl
     exact eff_append h ho hc hx ht hG (hid hmk) he hn
    ·exact (RM.run_fail he).elim
   ·exact (RM.run_fail he).elim
  ·rename_i hc
   split at he
   ·rename_i s x t t' hx ht
    exact eff_copy h ho hc hx ht hG he hn
   ·exact (RM.run_fail he).elim
  ·rename_i x hc
   refine eff_callV h ho hc hG (fun f S ho' hf hS i hi => ?_) (fun ho' => ?_) hM he hn
   ·cases x with
    | func f0 =>
     have hf0 : f0 = f := by
      have e : strip G (σ.opd (.func f0)) = .c (.fn f0 []) := rfl
      rw [e] at hf
      simpa using hf
     subst hf0
     refine hids i ?_
     have e : makes sg o.op = oNs S.rs := by
      obtain ⟨callee, args, argTypes⟩ := c
      simp only at hc
      subst hc
      rw [ho]
      simp only [makes, hS]
     omega
    | tmp _ => cases ho'
    | const _ => cases ho'
    | global _ => cases ho'
   ·cases x with
    | func f0 => exact ⟨f0, rfl⟩
    | tmp _ => cases ho'
    | const _ => cases ho'
    | global _ => cases ho'
  ·rename_i recv name hc
   split at he
   ·exact eff_invoke h ho hc (by assumption) hG hM he hn
   ·exact (RM.run_fail he).elim
  ·exact (RM.run_fail he).elim
 ·exact (RM.run_fail he).elim
def RK.frz : RK → Bool | .box _ _ z => z | .row _ _ _ _ z => z
def WrOne (K : Ctx) (rs : List (Option Res)) (p : Nat × Res) : Prop :=
 ((∀ x, rs[p.1]? = some (some x) → ¬ x.on K) ∧ ¬ p.2.on K) ∨ FreezeOf K ⟨[], rs⟩ p ∨ (rs[p.1]? = some (some p.2) ∧ p.2.k.frz = true)
def WrOff (K : Ctx) (rs : List (Option Res)) (wr : List (Nat × Res)) : Prop := ∀ p ∈ wr, WrOne K rs p
def RM.noWr : RM → Prop
 | .fail => True
 | .done eo => eo.wr = []
 | .res _ k => ∀ R, (k R).noWr
theorem RM.noWr_run {rs : List (Option Res)} {eo : EO} : ∀ {m : RM}, m.noWr → m.run rs = some eo → eo.wr = []
 | .fail, _, he => by simp [RM.run] at he
 | .done e, h, he => by simp [RM.run] at he; subst he; exact h
 | .res r k, h, he => by
  unfold RM.run at he
  split at he
  ·exact RM.noWr_run (h _) he
  ·cases he
theorem RM.val_noWr {v : Option SV} {nd : List Nd} : (RM.val v nd).noWr := by
 unfold RM.val; split <;> simp [RM.noWr]
theorem off_of_noWr {rs : List (Option Res)} {eo : EO} {m : RM} (h : m.noWr) (he : m.run rs = some eo) : WrOff K rs eo.wr := by
 rw [RM.noWr_run h he]; intro p hp; cases hp
theorem effLoad_noWr {G : X} {t : TypeId} {s : SV} : (effLoad P G t s).noWr := by
 unfold effLoad
 repeat' split
 all_goals first | trivial | exact RM.val_noWr | (intro R; dsimp only; repeat' split) <;> first | trivial | exact RM.val_noWr | rfl
theorem effNilCheck_noWr {s : SV} : (effNilCheck s).noWr := by
 unfold effNilCheck; repeat' split
 all_goals first | trivial | rfl
theorem effBin_noWr {op : BinOp} {t : TypeId} {x y : SV} : (effBin P op t x y).noWr := by
 unfold effBin; repeat' split
 all_goals first | trivial | rfl
theorem effUn_noWr {op : UnOp} {x : SV} : (effUn op x).noWr := by
 unfold effUn; repeat' split
 all_goals first | trivial | rfl
theorem effConvert_noWr {s d : TypeId} {x : SV} : (effConvert P s d x).noWr := by
 unfold effConvert; repeat' split
 all_goals first | trivial | rfl
theorem effConvertB_noWr {s d : TypeId} {x : SV} : (effConvertB P s d x).noWr := by
 unfold effConvertB; repeat' split
 all_goals first | exact effConvert_noWr | trivial | rfl
theorem effFieldAddr_noWr {s : TypeId} {x : SV} {f : Nat} : (effFieldAddr P s x f).noWr := by
 unfold effFieldAddr; repeat' split
 all_goals first | trivial | exact RM.val_noWr
theorem effField_noWr {s : TypeId} {x : SV} {f : Nat} : (effField P s x f).noWr := by
 unfold effField; repeat' split
 all_goals first | trivial | exact RM.val_noWr
theorem effIndexAddr_noWr {G : X} {t : TypeId} {x i : SV} : (effIndexAddr P G t x i).noWr := by
 unfold effIndexAddr
 repeat' split
 all_goals first | trivial | rfl | (intro R; dsimp only; repeat' split) <;> first | trivial | rfl
theorem effIndex_noWr {t : TypeId} {x i : SV} : (effIndex P t x i).noWr := by
 unfold effIndex; repeat' split
 all_goals first | trivial | rfl | exact RM.val_noWr
theorem effExtract_noWr {x : SV} {i : Nat} : (effExtract x i).noWr := by
 unfold effExtract; repeat' split
 all_goals first | trivial | exact RM.val_noWr
theorem effBuild_noWr {t : TypeId} {ps : List (Nat × SV)} : (effBuild P t ps).noWr := by
 unfold effBuild; repeat' split
 all_goals first | trivial | rfl
theorem effPick_noWr {G : X} {c x y : SV} : (effPick G c x y).noWr := by
 unfold effPick; repeat' split
 all_goals first | trivial | rfl
theorem effLen_noWr {G : X} {t : TypeId} {x : SV} : (effLen P G t x).noWr := by
 unfold effLen; repeat' split
 all_goals first | trivial | rfl | (intro R; dsimp only; repeat' split) <;> first | trivial | rfl
theorem effMakeIface_noWr {t : TypeId} {x : SV} : (effMakeIface P t x).noWr := by
 unfold effMakeIface; repeat' split
 all_goals first | trivial | rfl
theorem effTypeAssert_noWr {t : TypeId} {x : SV} {b : Bool} : (effTypeAssert P t x b).noWr := by
 unfold effTypeAssert; repeat' split
 all_goals first | trivial | rfl
theorem effInvoke_noWr {x : SV} {name : String} : (effInvoke P sg x name).noWr := by
 unfold effInvoke; repeat' split
 all_goals first | trivial | rfl
theorem effMakeFunc_noWr {fn : Fn} {x y : List SV} : (effMakeFunc fn x y).noWr := by
 unfold effMakeFunc; repeat' split
 all_goals first | trivial | rfl
theorem WrOff.append {rs : List (Option Res)} {wr wr' : List (Nat × Res)} (h : WrOff K rs wr) (h' : WrOff K rs wr') : WrOff K rs (wr ++ wr') := fun p hp => (List.mem_append.1 hp).elim (h p) (h' p)
theorem WrOff.nil {rs : List (Option Res)} : WrOff K rs [] := fun p hp => by cases hp
theorem WrOff.one {rs : List (Option Res)} {id : Nat} (hid : rs[id]? = some none) {G : X} (hG : ¬ (G.d K.Φ K.ρ).bool = true) {k : RK} : WrOff K rs [(id, ⟨G, k⟩)] := fun p hp => by
 simp only [List.mem_singleton] at hp; subst hp; exact .inl ⟨fun x hx => (by rw [hid] at hx; cases hx), hG⟩
theorem freeze_off {r : Nat} {R : Res} (hR : σ.has r R) {k : RK} (hk : (∃ ety cells, R.k = .box ety cells false ∧ (⟨R.g, k⟩ : Res) = ⟨R.g, .box ety cells true⟩) ∨ (∃ ety cts content ver, R.k = .row ety cts content ver false ∧ (⟨R.g, k⟩ : Res) = ⟨R.g, .row ety cts content ver true⟩)) :
  WrOff K σ.res [(r, ⟨R.g, k⟩)] := by
 intro p hp
 simp only [List.mem_singleton] at hp
 subst hp
 by_cases hon : R.on K
 ·exact .inr (.inl ⟨R, hR, hon, hk⟩)
 ·refine .inl ⟨fun x hx => ?_, hon⟩
  unfold St.has at hR
  rw [hR] at hx
  simp only [si0] at hx
  subst hx
  exact hon
theorem frzArg_off {G : X} {ct : CT} {s : SC} {k : X → RM} {eo : EO} (he : (frzArg G ct s k).run σ.res = some eo) : ∃ e, (k e).run σ.res = some eo := by
 unfold frzArg at he
 split at he
 ·obtain ⟨R, hR, he2⟩ := RM.run_res he
  split at he2
  ·split at he2
   ·exact ⟨_, he2⟩
   ·exact (RM.run_fail he2).elim
  ·exact (RM.run_fail he2).elim
 ·exact ⟨_, he⟩
 ·split at he
  ·exact ⟨_, he⟩
  ·exact (RM.run_fail he).elim
 ·exact (RM.run_fail he).elim
theorem frzArgs_off {G : X} : ∀ {cts : List CT} {cs : List SC} {k : List X → RM} {eo : EO}, (frzArgs G cts cs k).run σ.res = some eo → ∃ xs, (k xs).run σ.res = some eo
 | [], [], k, eo, he => ⟨[], he⟩
 | _ :: _, [], k, eo, he => (RM.run_fail he).elim
 | [], _ :: _, k, eo, he => (RM.run_fail he).elim
 | ct :: cts, c :: cs, k, eo, he => by
  obtain ⟨e, he1⟩ := frzArg_off he
  obtain ⟨es, he2⟩ := frzArgs_off he1
  exact ⟨e :: es, he2⟩
theorem flatArg_off {G : X} (_hG : ¬ (G.d K.Φ K.ρ).bool = true) {fz : Bool} {ct : CT} {s : SC} {k : X → List (Nat × Res) → RM} {eo : EO} (he : (flatArg G fz ct s k).run σ.res = some eo) :
  ∃ e wr, (k e wr).run σ.res = some eo ∧ WrOff K σ.res wr := by
 unfold flatArg at he
 split at he
 ·obtain ⟨R, hR, he⟩ := RM.run_res he
  split at he
  ·split at he
   ·refine ⟨_, _, he, ?_⟩
    split
    ·rename_i hz
     simp only [Bool.and_eq_true, Bool.not_eq_true'] at hz
     exact freeze_off hR (.inr ⟨_, _, _, _, by rw [← hz.2]; assumption, rfl⟩)
    ·exact WrOff.nil
   ·exact (RM.run_fail he).elim
  ·exact (RM.run_fail he).elim
 ·exact ⟨_, _, he, WrOff.nil⟩
 ·split at he
  ·exact ⟨_, _, he, WrOff.nil⟩
  ·exact (RM.run_fail he).elim
 ·exact (RM.run_fail he).elim
theorem boxArgs_off {G : X} (hG : ¬ (G.d K.Φ K.ρ).bool = true) {fz : Bool} : ∀ {cts : List CT} {cells : List SC} {k : List X → List (Nat × Res) → RM} {eo : EO}, (boxArgs G fz cts cells k).run σ.res = some eo →
  ∃ xs wr, (k xs wr).run σ.res = some eo ∧ WrOff K σ.res wr
 | [], cells, k, eo, he => ⟨[], [], he, WrOff.nil⟩
 | _ :: _, [], k, eo, he => (RM.run_fail he).elim
 | ct :: cts, c :: cs, k, eo, he => by
  obtain ⟨e, wr, he1, h1⟩ := flatArg_off hG he
  obtain ⟨es, wr', he2, h2⟩ := boxArgs_off hG he1
  exact ⟨_, _, he2, h1.append h2⟩
theorem cellArg1_off {G : X} (hG : ¬ (G.d K.Φ K.ρ).bool = true) {fz : Bool} {ct : CT} {s : SC} {k : X → List (Nat × Res) → RM} {eo : EO} (he : (cellArg1 G fz ct s k).run σ.res = some eo) :
  ∃ e wr, (k e wr).run σ.res = some eo ∧ WrOff K σ.res wr := by
 unfold cellArg1 at he
 split at he
 ·obtain ⟨R, hR, he⟩ := RM.run_res he
  split at he
  ·split at he
   ·obtain ⟨xs, wr, he, h1⟩ := boxArgs_off hG he
    refine ⟨_, _, he, h1.append ?_⟩
    split
    ·rename_i hz
     simp only [Bool.and_eq_true, Bool.not_eq_true'] at hz
     exact freeze_off hR (.inl ⟨_, _, by rw [← hz.2]; assumption, rfl⟩)
    ·exact WrOff.nil
   ·exact (RM.run_fail he).elim
  ·exact (RM.run_fail he).elim
 ·exact flatArg_off hG he
theorem cellArg0_off {G : X} (hG : ¬ (G.d K.Φ K.ρ).bool = true) {fz : Bool} {ct : CT} {s : SC} {k : X → List (Nat × Res) → RM} {eo : EO} (he : (cellArg0 G fz ct s k).run σ.res = some eo) :
  ∃ e wr, (k e wr).run σ.res = some eo ∧ WrOff K σ.res wr := by
 unfold cellArg0 at he
 split at he
 ·split at he
  ·exact cellArg1_off hG he
  ·split at he
   ·exact ⟨_, _, he, WrOff.nil⟩
   ·exact cellArg1_off hG he
 ·exact cellArg1_off hG he
theorem capsArg_off {G : X} (hG : ¬ (G.d K.Φ K.ρ).bool = true) {fz : Bool} : ∀ {caps : List (Nat × Nat)} {k : List CT → List X → List (Nat × Res) → RM} {eo : EO}, (capsArg G fz caps k).run σ.res = some eo →
  ∃ ctss es wr, (k ctss es wr).run σ.res = some eo ∧ WrOff K σ.res wr
 | [], k, eo, he => ⟨[], [], [], he, WrOff.nil⟩
 | c :: caps, k, eo, he => by
  unfold capsArg at he
  obtain ⟨R, hR, he⟩ := RM.run_res he
  split at he
  ·split at he
   ·obtain ⟨e, wr, he, h1⟩ := cellArg0_off hG he
    obtain ⟨ctss, es, wr', he, h2⟩ := capsArg_off hG he
    exact ⟨_, _, _, he, h1.append h2⟩
   ·exact (RM.run_fail he).elim
  ·exact (RM.run_fail he).elim
theorem cellArg_off {G : X} (hG : ¬ (G.d K.Φ K.ρ).bool = true) {fz : Bool} {ct : CT} {s : SC} {k : X → List (Nat × Res) → RM} {eo : EO} (he : (cellArg G fz ct s k).run σ.res = some eo) :
  ∃ e wr, (k e wr).run σ.res = some eo ∧ WrOff K σ.res wr := by
 unfold cellArg at he
 split at he
 ·obtain ⟨ctss, es, wr, he, h1⟩ := capsArg_off hG he
  exact ⟨_, _, he, h1⟩
 ·exact cellArg0_off hG he
theorem cellsArg_off {G : X} (hG : ¬ (G.d K.Φ K.ρ).bool = true) {fz : Bool} : ∀ {cts : List CT} {cs : List SC} {k : List X → List (Nat × Res) → RM} {eo : EO}, (cellsArg G fz cts cs k).run σ.res = some eo →
  ∃ es wr, (k es wr).run σ.res = some eo ∧ WrOff K σ.res wr
 | [], [], k, eo, he => ⟨[], [], he, WrOff.nil⟩
 | ct :: cts, c :: cs, k, eo, he => by
  obtain ⟨e, wr, he, h1⟩ := cellArg_off hG he
  obtain ⟨es, wr', he, h2⟩ := cellsArg_off hG he
  exact ⟨_, _, he, h1.append h2⟩
 | [], _ :: _, k, eo, he => by simp [cellsArg, RM.run] at he
 | _ :: _, [], k, eo, he => by simp [cellsArg, RM.run] at he
theorem argsX_off {G : X} (hG : ¬ (G.d K.Φ K.ρ).bool = true) {fz : Bool} : ∀ {ps : List (Bool × List CT)} {vs : List SV} {k : List X → List (Nat × Res) → RM} {eo : EO}, (argsX G fz ps vs k).run σ.res = some eo →
  ∃ es wr, (k es wr).run σ.res = some eo ∧ WrOff K σ.res wr
 | [], [], k, eo, he => ⟨[], [], he, WrOff.nil⟩
 | p :: ps, v :: vs, k, eo, he => by
  unfold argsX at he
  split at he
  ·obtain ⟨e, wr, he, h1⟩ := cellsArg_off hG he
   obtain ⟨es, wr', he, h2⟩ := argsX_off hG he
   exact ⟨_, _, he, h1.append h2⟩
  ·exact (RM.run_fail he).elim
 | [], _ :: _, k, eo, he => by simp [argsX, RM.run] at he
 | _ :: _, [], k, eo, he => by simp [argsX, RM.run] at he
theorem rowsArg_off {G : X} (hG : ¬ (G.d K.Φ K.ρ).bool = true) {cts : List CT} : ∀ {ps : List (Nat × SV)} {k : X → List (Nat × Res) → RM} {eo : EO}, (rowsArg G cts ps k).run σ.res = some eo →
  ∃ e wr, (k e wr).run σ.res = some eo ∧ WrOff K σ.res wr
 | [], k, eo, he => ⟨_, _, he, WrOff.nil⟩
 | p :: ps, k, eo, he => by
  unfold rowsArg at he
  split at he
  ·obtain ⟨e, wr, he, h1⟩ := cellsArg_off hG he
   obtain ⟨es, wr', he, h2⟩ := rowsArg_off hG he
   exact ⟨_, _, he, h1.append h2⟩
  ·exact (RM.run_fail he).elim
theorem srcArg_off {G : X} {e : TypeId} {cts : List CT} {s : SC} {k : X → RM} {eo : EO} (he : (srcArg G e cts s k).run σ.res = some eo) : ∃ cx, (k cx).run σ.res = some eo := by
 unfold srcArg at he
 split at he
 ·obtain ⟨R, hR, he⟩ := RM.run_res he
  split at he
  ·split at he
   ·exact ⟨_, he⟩
   ·exact (RM.run_fail he).elim
  ·exact (RM.run_fail he).elim
 ·exact ⟨_, he⟩
 ·split at he
  ·exact ⟨_, he⟩
  ·exact (RM.run_fail he).elim
 ·exact (RM.run_fail he).elim
theorem ownWr_off {mk : Nat → X} {G : X} (hG : ¬ (G.d K.Φ K.ρ).bool = true) {rs : List (Option Res)} {cts : List CT} {j r : Nat} (hid : ∀ i, i < oN cts → rs[r + i]? = some none) : WrOff K rs (ownWr mk G j r cts) := fun p hp => by
 obtain ⟨i, h1, h2, h3⟩ := ownWr_mem hp
 refine .inl ⟨fun x hx => ?_, ?_⟩
 ·rw [h2, hid i h1] at hx; cases hx
 ·unfold Res.on; rw [h3]; exact hG
theorem effCall_off {G : X} (hG : ¬ (G.d K.Φ K.ρ).bool = true) {f : FuncId} {vs : List SV} {eo : EO} {id : Nat} {ow : Bool} (hid : ∀ S, sg f = some S → ow = true → ∀ i, i < oNs S.rs → σ.res[id + i]? = some none) (he : (effCall sg G id ow f vs).run σ.res = some eo) : WrOff K σ.res eo.wr := by
 unfold effCall at he
 split at he
 ·rename_i S hS
  split at he
  ·exact (RM.run_fail he).elim
  ·rename_i hw
   obtain ⟨_, hid'⟩ := own_cond hw (hid S hS)
   split at he
   ·split at he
    ·unfold effRow at he
     split at he
     ·obtain ⟨R, hR, he⟩ := RM.run_res he
      split at he
      ·split at he
       ·rename_i hc
        simp only [Bool.and_eq_true] at hc
        exact absurd (isTt_sound hc.1.1.1.1.1) hG
       ·exact (RM.run_fail he).elim
      ·exact (RM.run_fail he).elim
     ·exact (RM.run_fail he).elim
    unfold effCall0 at he
    obtain ⟨es, wr, he, h1⟩ := argsX_off hG he
    split at he
    ·have := RM.run_done he; subst this; exact h1.append (ownWr_off hG hid')
    ·exact (RM.run_fail he).elim
   ·split at he
    ·unfold effProc at he
     split at he
     ·exact (RM.run_fail he).elim
     ·rename_i hc
      simp only [Bool.not_eq_true, Bool.not_eq_false', Bool.and_eq_true] at hc
      exact absurd (isTt_sound hc.1) hG
    ·exact (RM.run_fail he).elim
 ·exact (RM.run_fail he).elim
theorem eff_off {G : X} (hG : ¬ (G.d K.Φ K.ρ).bool = true) {id : Nat} {p : Op} (hids : ∀ i, i < makes sg p → σ.res[id + i]? = some none) {eo : EO} {arg : Operand → SV} (harg : ∀ f, arg (.func f) = .c (.fn f [])) (he : (eff P sg G id arg p).run σ.res = some eo) : WrOff K σ.res eo.wr := by
 have ntt : isTt G = true → False := fun h => hG (isTt_sound h)
 have hid : makes sg p = 1 → σ.res[id]? = some none := fun e => by simpa using hids 0 (by omega)
 unfold eff at he
 split at he
 ·have := RM.run_done he; subst this; exact WrOff.nil
 ·have := RM.run_done he; subst this; exact WrOff.nil
 ·exact off_of_noWr effPick_noWr he
 ·split at he
  ·have := RM.run_done he; subst this; exact WrOff.one (hid rfl) hG
  ·exact (RM.run_fail he).elim
 ·split at he
  ·split at he
   ·have := RM.run_done he; subst this; exact WrOff.one (hid rfl) hG
   ·exact (RM.run_fail he).elim
  ·exact (RM.run_fail he).elim
 ·exact off_of_noWr effBuild_noWr he
 ·unfold effBuildSlice at he
  split at he
  ·split at he
   ·split at he
    ·obtain ⟨e, wr, he, h1⟩ := rowsArg_off hG he
     have := RM.run_done he; subst this
     exact h1.append (WrOff.one (hid rfl) hG)
    ·exact (RM.run_fail he).elim
   ·exact (RM.run_fail he).elim
  ·exact (RM.run_fail he).elim
 ·exact off_of_noWr effLoad_noWr he
 ·unfold effStore at he
  split at he
  ·obtain ⟨R, hR, he⟩ := RM.run_res he
   split at he
   ·split at he
    ·rename_i hc
     simp only [Bool.and_eq_true] at hc
     exact (ntt hc.1.1.1.1.1).elim
    ·exact (RM.run_fail he).elim
   ·exact (RM.run_fail he).elim
  ·split at he
   ·obtain ⟨R, hR, he⟩ := RM.run_res he
    split at he
    ·obtain ⟨xs, he⟩ := frzArgs_off he
     split at he
     ·rename_i hc
      simp only [Bool.and_eq_true] at hc
      exact (ntt hc.1.1.1.1.1.1).elim
     ·exact (RM.run_fail he).elim
    ·exact (RM.run_fail he).elim
   ·exact (RM.run_fail he).elim
  ·split at he
   ·obtain ⟨R, hR, he⟩ := RM.run_res he
    split at he
    ·split at he
     ·split at he
      ·rename_i hc
       simp only [Bool.and_eq_true] at hc
       exact (ntt hc.1.1.1.1).elim
      ·exact (RM.run_fail he).elim
     ·exact (RM.run_fail he).elim
    ·exact (RM.run_fail he).elim
   ·exact (RM.run_fail he).elim
  ·exact (RM.run_fail he).elim
 ·exact off_of_noWr effNilCheck_noWr he
 ·exact off_of_noWr effBin_noWr he
 ·exact off_of_noWr effUn_noWr he
 ·exact off_of_noWr effConvertB_noWr he
 ·exact off_of_noWr effFieldAddr_noWr he
 ·exact off_of_noWr effField_noWr he
 ·exact off_of_noWr effIndexAddr_noWr he
 ·exact off_of_noWr effIndex_noWr he
 ·exact off_of_noWr effExtract_noWr he
 ·unfold effMakeSlice at he
  split at he
  ·split at he
   ·split at he
    ·split at he
     ·have := RM.run_done he; subst this; exact WrOff.one (hid rfl) hG
     ·exact (RM.run_fail he).elim
    ·exact (RM.run_fail he).elim
   ·exact (RM.run_fail he).elim
  ·exact (RM.run_fail he).elim
 ·unfold effSlice at he
  split at he
  ·split at he
   ·split at he
    ·split at he
     ·have := RM.run_done he; subst this; exact WrOff.nil
     ·exact (RM.run_fail he).elim
    ·exact (RM.run_fail he).elim
   ·obtain ⟨R, hR, he⟩ := RM.run_res he
    split at he
    ·split at he
     ·split at he
      ·have := RM.run_done he; subst this
       rename_i frz hk _ _ _ _ _ _ _ _
       cases frz with
       | true => exact WrOff.nil
       | false => exact freeze_off hR (.inr ⟨_, _, _, _, hk, rfl⟩)
      ·exact (RM.run_fail he).elim
     ·exact (RM.run_fail he).elim
    ·exact (RM.run_fail he).elim
   ·exact (RM.run_fail he).elim
  ·exact (RM.run_fail he).elim
 ·exact off_of_noWr effMakeIface_noWr he
 ·exact off_of_noWr effTypeAssert_noWr he
 ·exact off_of_noWr effMakeFunc_noWr he
 ·rename_i c
  split at he
  ·split at he
   ·exact off_of_noWr effLen_noWr he
   ·exact (RM.run_fail he).elim
  ·split at he
   ·split at he
    ·exact off_of_noWr RM.val_noWr he
    ·exact (RM.run_fail he).elim
   ·exact (RM.run_fail he).elim
  ·split at he
   ·split at he
    ·exact off_of_noWr RM.val_noWr he
    ·exact (RM.run_fail he).elim
   ·exact (RM.run_fail he).elim
  ·rename_i hc
   split at he
   ·split at he
    ·have hmk : makes sg (.call c) = 1 := by
      obtain ⟨callee, args, argTypes⟩ := c
      simp only at hc
      subst hc
      rfl
     unfold effAppend at he
     split at he
     ·split at he
      ·split at he
       ·exact (RM.run_fail he).elim
       ·split at he
        ·obtain ⟨cx, he⟩ := srcArg_off he
         split at he
         ·have := RM.run_done he; subst this; exact WrOff.one (hid hmk) hG
         ·obtain ⟨R, hR, he⟩ := RM.run_res he
          split at he
          ·split at he
           ·rename_i hc
            simp only [Bool.and_eq_true] at hc
            exact (ntt hc.1.1.1.1.1).elim
           ·exact (RM.run_fail he).elim
          ·exact (RM.run_fail he).elim
         ·exact (RM.run_fail he).elim
        ·exact (RM.run_fail he).elim
      ·exact (RM.run_fail he).elim
     ·exact (RM.run_fail he).elim
    ·exact (RM.run_fail he).elim
   ·exact (RM.run_fail he).elim
  ·split at he
   ·unfold effCopy at he
    split at he
    ·split at he
     ·split at he
      ·exact (RM.run_fail he).elim
      ·split at he
       ·obtain ⟨cx, he⟩ := srcArg_off he
        split at he
        ·obtain ⟨R, hR, he⟩ := RM.run_res he
         split at he
         ·split at he
          ·rename_i hc
           simp only [Bool.and_eq_true] at hc
           exact (ntt hc.1.1.1.1.1).elim
          ·exact (RM.run_fail he).elim
         ·exact (RM.run_fail he).elim
        ·exact (RM.run_fail he).elim
       ·exact (RM.run_fail he).elim
     ·exact (RM.run_fail he).elim
    ·exact (RM.run_fail he).elim
   ·exact (RM.run_fail he).elim
  ·rename_i x hc
   unfold effCallV at he
   split at he
   ·rename_i f caps hf
    split at he
    ·refine effCall_off hG (fun S hS ho' i hi => ?_) he
     cases x with
     | func f0 =>
      rw [harg] at hf
      simp only [SV.c.injEq, SC.fn.injEq] at hf
      obtain ⟨rfl, _⟩ := hf
      refine hids i ?_
      have e : makes sg (.call c) = oNs S.rs := by
       obtain ⟨callee, args, argTypes⟩ := c
       simp only at hc
       subst hc
       simp only [makes, hS]
      omega
     | tmp _ => cases ho'
     | const _ => cases ho'
     | global _ => cases ho'
    ·exact (RM.run_fail he).elim
   ·exact effCall_off hG (fun S _ ho' => by cases ho') he
   ·exact (RM.run_fail he).elim
  ·split at he
   ·exact off_of_noWr effInvoke_noWr he
   ·exact (RM.run_fail he).elim
  ·exact (RM.run_fail he).elim
 ·exact (RM.run_fail he).elim
theorem Inv.off (h : Inv K σ gh a w) {p : Nat × Res} (hp : (∀ x, σ.res[p.1]? = some (some x) → ¬ x.on K) ∧ ¬ p.2.on K) :
  Inv K ⟨σ.slots, σ.res.set p.1 (some p.2)⟩ gh a w := by
 obtain ⟨hoff, hp2⟩ := hp
 have old : ∀ r x, (⟨σ.slots, σ.res.set p.1 (some p.2)⟩ : St).has r x → x.on K → σ.has r x := by
  intro r x hx hon
  unfold St.has at hx ⊢
  rw [List.getElem?_set] at hx
  split at hx
  ·split at hx
   ·simp only [si0] at hx
    subst hx
    exact absurd hon hp2
   ·cases hx
  ·exact hx
 have new : ∀ r x, σ.has r x → x.on K → (⟨σ.slots, σ.res.set p.1 (some p.2)⟩ : St).has r x := by
  intro r x hx hon
  have hne : p.1 ≠ r := by rintro rfl; exact hoff x hx hon
  unfold St.has at hx ⊢
  rw [List.getElem?_set, if_neg hne]
  exact hx
 exact ⟨h.defers, h.size, h.slot, h.kept, h.os, h.tape, h.output, h.grow, h.pr, h.prlt, h.Flt, fun r b hb => let ⟨x, hx, hon⟩ := h.beta r b hb; ⟨x, new r x hx hon, hon⟩,
  fun r hr => let ⟨x, hx, hon⟩ := h.vr0 r hr; ⟨x, new r x hx hon, hon⟩, fun r x hx hon => h.res r x (old r x hx hon) hon, fun r x b hx hon => h.own r x b (old r x hx hon) hon,
  fun r x r' x' b hx hon hx' hon' => h.inj r x r' x' b (old r x hx hon) hon (old r' x' hx' hon') hon', h.le0, h.Fpr, h.tab⟩
theorem Inv.offs : ∀ {wr : List (Nat × Res)} {σ : St} {gh : Gh}, Inv K σ gh a w → WrOff K σ.res wr → ∃ gh', Inv K ⟨σ.slots, setAll σ.res wr⟩ gh' a w
 | [], σ, gh, h, _ => ⟨gh, h⟩
 | p :: wr, σ, gh, h, hw => by
  have key : ∃ gh', Inv K ⟨σ.slots, σ.res.set p.1 (some p.2)⟩ gh' a w := by
   rcases hw p (by simp) with h1 | h1 | ⟨h1, _⟩
   ·exact ⟨gh, h.off h1⟩
   ·obtain ⟨gh', h2, _⟩ := freeze_one h (p := p) h1
    exact ⟨gh', h2⟩
   ·rw [set_same h1]; exact ⟨gh, h⟩
  obtain ⟨gh', h1⟩ := key
  refine Inv.offs (σ := ⟨σ.slots, σ.res.set p.1 (some p.2)⟩) h1 fun q hq => ?_
  have hpw := hw p (by simp)
  have hqw := hw q (by simp [hq])
  by_cases e : p.1 = q.1
  ·by_cases hlt : p.1 < σ.res.length
   ·have hset : (σ.res.set p.1 (some p.2))[q.1]? = some (some p.2) := by rw [← e]; exact getElem?_set_has hlt
    show WrOne K (σ.res.set p.1 (some p.2)) q
    rcases hqw with ⟨q1, q2⟩ | ⟨x, q1, q2, q3⟩ | ⟨q1, q2⟩
    ·rcases hpw with ⟨p1, p2⟩ | ⟨y, p1, p2, p3⟩ | ⟨p1, p2⟩
     ·exact .inl ⟨fun x hx => by rw [hset] at hx; simp only [si0] at hx; subst hx; exact p2, q2⟩
     ·unfold St.has at p1; rw [e] at p1; exact absurd p2 (q1 y p1)
     ·rw [e] at p1; exact .inl ⟨fun x hx => by rw [hset] at hx; simp only [si0] at hx; subst hx; exact q1 _ p1, q2⟩
    ·unfold St.has at q1
     rcases hpw with ⟨p1, p2⟩ | ⟨y, p1, p2, p3⟩ | ⟨p1, p2⟩
     ·rw [← e] at q1; exact absurd q2 (p1 x q1)
     ·unfold St.has at p1
      have hxy : x = y := by
       simp only at p1 q1
       rw [e, q1] at p1
       simpa using p1
      subst hxy
      have hpq : p.2 = q.2 := by
       rcases q3 with ⟨e1, c1, k1, k2⟩ | ⟨e1, c1, x1, v1, k1, k2⟩ <;> rcases p3 with ⟨e2, c2, k3, k4⟩ | ⟨e2, c2, x2, v2, k3, k4⟩ <;> rw [k1] at k3 <;> cases k3 <;> rw [k2, k4]
      refine .inr (.inr ⟨by rw [hset, hpq], ?_⟩)
      rcases q3 with ⟨e1, c1, k1, k2⟩ | ⟨e1, c1, x1, v1, k1, k2⟩ <;> rw [k2] <;> rfl
     ·simp only at q1
      rw [e, q1] at p1
      simp only [si0] at p1
      rcases q3 with ⟨e2, c2, k3, k4⟩ | ⟨e2, c2, x2, v2, k3, k4⟩ <;> rw [← p1, k3] at p2 <;> cases p2
    ·rcases hpw with ⟨p1, p2⟩ | ⟨y, p1, p2, p3⟩ | ⟨p1, p2⟩
     ·rw [← e] at q1
      exact .inl ⟨fun x hx => by rw [hset] at hx; simp only [si0] at hx; subst hx; exact p2, p1 _ q1⟩
     ·unfold St.has at p1
      simp only at p1
      rw [e, q1] at p1
      simp only [si0] at p1
      rcases p3 with ⟨e2, c2, k3, k4⟩ | ⟨e2, c2, x2, v2, k3, k4⟩ <;> rw [p1, k3] at q2 <;> cases q2
     ·rw [← e, p1] at q1
      refine .inr (.inr ⟨by rw [hset, ← q1], q2⟩)
   ·have : σ.res.set p.1 (some p.2) = σ.res := List.set_eq_of_length_le (by omega)
    show WrOne K (σ.res.set p.1 (some p.2)) q
    rw [this]; exact hqw
  ·show WrOne K (σ.res.set p.1 (some p.2)) q
   unfold WrOne FreezeOf St.has at hqw ⊢
   simp only [List.getElem?_set, if_neg e] at hqw ⊢
   exact hqw
theorem RM.run_congr {rs rs' : List (Option Res)} : ∀ {m : RM}, (∀ r ∈ m.reads rs, rs.getD r none = rs'.getD r none) → m.run rs' = m.run rs ∧ m.reads rs' = m.reads rs
 | .fail, _ => ⟨rfl, rfl⟩
 | .done _, _ => ⟨rfl, rfl⟩
 | .res r k, h => by
  have h0 := h r (by simp [RM.reads])
  unfold RM.run RM.reads
  rw [← h0]
  cases hr : rs.getD r none with
  | none => exact ⟨rfl, rfl⟩
  | some R =>
   have := RM.run_congr (rs := rs) (rs' := rs') (m := k R) fun q hq => h q (by unfold RM.reads; rw [hr]; simp [hq])
   exact ⟨this.1, by simp only [this.2]⟩
theorem eff_congr {G : X} {id : Nat} {arg arg' : Operand → SV} {p : Op} (h : ∀ x ∈ p.operands.toList, arg x = arg' x) : eff P sg G id arg p = eff P sg G id arg' p := by
 cases p with
 | build t ps =>
  have : (ps.toList.map fun p => (p.1, arg p.2)) = ps.toList.map fun p => (p.1, arg' p.2) := List.map_congr_left fun q hq => by rw [h q.2 (by simp [Op.operands]; exact ⟨q.1, by simpa using hq⟩)]
  simp only [eff, this]
 | buildSlice t n ps =>
  have : (ps.toList.map fun p => (p.1, arg p.2)) = ps.toList.map fun p => (p.1, arg' p.2) := List.map_congr_left fun q hq => by rw [h q.2 (by simp [Op.operands]; exact ⟨q.1, by simpa using hq⟩)]
  simp only [eff, this]
 | slice t x lo hi mx =>
  have h0 := h x (by simp [Op.operands])
  have h1 : lo.map arg = lo.map arg' := by cases lo with | none => rfl | some y => simp [h y (by simp [Op.operands])]
  have h2 : hi.map arg = hi.map arg' := by cases hi with | none => rfl | some y => simp [h y (by simp [Op.operands])]
  have h3 : mx.map arg = mx.map arg' := by cases mx with | none => rfl | some y => simp [h y (by simp [Op.operands])]
  simp only [eff, h0, h1, h2, h3]
 | call c =>
  have hm : c.args.toList.map arg = c.args.toList.map arg' := List.map_congr_left fun q hq => h q (by simp only [Op.operands, Call.operands, Array.toList_append, List.mem_append]; exact .inr hq)
  have hq : ∀ q ∈ c.args.toList, arg q = arg' q := fun q hq => h q (by simp only [Op.operands, Call.operands, Array.toList_append, List.mem_append]; exact .inr hq)
  unfold eff
  dsimp only
  split
  ·split
   ·rename_i x t hx ht
    rw [hq x (by rw [hx]; simp)]
   ·rfl
  ·rw [hm]
  ·rw [hm]
  ·split
   ·rename_i s x t t' hx ht
    rw [hq x (by rw [hx]; simp), hq s (by rw [hx]; simp)]
   ·rfl
  ·split
   ·rename_i s x t t' hx ht
    rw [hq x (by rw [hx]; simp), hq s (by rw [hx]; simp)]
   ·rfl
  ·rename_i x hx
   have hc : arg x = arg' x := h x (by simp only [Op.operands, Call.operands, hx, Array.toList_append, List.mem_append]; exact .inl (by simp))
   rw [hm, hc]
  ·rename_i recv name hx
   have hc : arg recv = arg' recv := h recv (by simp only [Op.operands, Call.operands, hx, Array.toList_append, List.mem_append]; exact .inl (by simp))
   rw [hc]
  ·rfl
 | makeInterface t x => simp only [eff, h x (by simp [Op.operands])]
 | typeAssert x t t' b => simp only [eff, h x (by simp [Op.operands])]
 | makeFunc fn first captured =>
  have h1 : first.toList.map arg = first.toList.map arg' := List.map_congr_left fun q hq => h q (by simp only [Op.operands, Array.toList_append, List.mem_append]; exact .inl hq)
  have h2 : captured.toList.map arg = captured.toList.map arg' := List.map_congr_left fun q hq => h q (by simp only [Op.operands, Array.toList_append, List.mem_append]; exact .inr hq)
  simp only [eff, h1, h2]
 | pick c x y => simp only [eff, h c (by simp [Op.operands]), h x (by simp [Op.operands]), h y (by simp [Op.operands])]
 | move x => simp only [eff, h x (by simp [Op.operands])]
 | assign x => simp only [eff, h x (by simp [Op.operands])]
 | box e x => simp only [eff, h x (by simp [Op.operands])]
 | load e x => simp only [eff, h x (by simp [Op.operands])]
 | nilCheck x => simp only [eff, h x (by simp [Op.operands])]
 | unOp o t x => simp only [eff, h x (by simp [Op.operands])]
 | convert s d x => simp only [eff, h x (by simp [Op.operands])]
 | fieldAddr s x f => simp only [eff, h x (by simp [Op.operands])]
 | field s x f => simp only [eff, h x (by simp [Op.operands])]
 | extract x i => simp only [eff, h x (by simp [Op.operands])]
 | store t x y => simp only [eff, h x (by simp [Op.operands]), h y (by simp [Op.operands])]
 | binOp o t x y t' => simp only [eff, h x (by simp [Op.operands]), h y (by simp [Op.operands])]
 | makeSlice t x y => simp only [eff, h x (by simp [Op.operands]), h y (by simp [Op.operands])]
 | indexAddr t x y => simp only [eff, h x (by simp [Op.operands]), h y (by simp [Op.operands])]
 | index t x y => simp only [eff, h x (by simp [Op.operands]), h y (by simp [Op.operands])]
 | _ => rfl
end
end Go.RV
