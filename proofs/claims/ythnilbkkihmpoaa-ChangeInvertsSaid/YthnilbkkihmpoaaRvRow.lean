/-
  RV, part 11b2: calls of functions that change a row of their caller's own.
-/
import Derived.Test.YthnilbkkihmpoaaRvAfter
namespace Go.RV
open Go.RowKit

section
variable {P : Program} {K : Ctx} {σ : St} {gh : Gh} {a : Act} {w : World} {o : Oper}

/-- a row's cells turn, its header stays -/
theorem row_put (h : Inv K σ gh a w) {r : Nat} {x : Res} (hx : σ.has r x) (hon : x.on K) {ety : TypeId} {cts : List CT} {content0 : X} {ver : Nat} (hk : x.k = .row ety cts content0 ver false)
    {w' : World} (hgr : w.grownBy w' (ownB (gh.rv r))) {content : X} {xs : List (List D)} (hd : content.d K.Φ K.ρ = .l xs) {vals : List Value} (hown : OwnR w' ety cts.length (gh.rv r) xs.length vals) (hrep : RowRep w gh.F cts xs vals) :
    Inv K ⟨σ.slots, σ.res.set r (some ⟨x.g, .row ety cts content ver false⟩)⟩ gh a w' := by
  have hlt : r < σ.res.length := (List.getElem?_eq_some_iff.1 hx).1
  have hok := h.res r x hx hon
  rw [hk] at hok
  obtain ⟨hv1, hv2, hv3, _⟩ := hok
  have hFb : ∀ b, gh.F b → w'.heap[b]? = w.heap[b]? := fun b hb => hgr.block b (h.Flt b hb) fun eb => (h.own r x b hx hon (by rw [hk]; exact eb.symm)).2.1 hb
  refine h.step (T := fun q => q = r) ⟨Gh.le.refl gh, hgr.os, hgr.tape, hgr.output, hgr.size, fun q hq => ⟨by simp [Ne.symm hq], rfl, rfl, rfl⟩,
    fun b hb hT => hgr.block b hb fun eb => hT r x rfl hx hon (by rw [hk]; exact eb.symm),
    fun b hb => Nat.lt_of_lt_of_le (h.Flt b hb) hgr.size, fun b hb => .inl hb, fun q y hT hy hony => ?_, fun q y b hT hy hony hl => ?_, fun q y q' y' c hT hT' _ _ _ _ _ _ => hT.trans hT'.symm, fun q c hT hb => ?_, fun q hT hr => ?_⟩
  · subst hT
    rw [getElem?_set_has hlt] at hy
    simp only [Option.some.injEq] at hy
    subst hy
    exact ⟨hv1, hv2, hv3, xs, vals, hd, hown, hrep.mono (fun _ h => h) hFb⟩
  · subst hT
    rw [getElem?_set_has hlt] at hy
    simp only [Option.some.injEq] at hy
    subst hy
    have hl' : x.k.live gh q = some b := by rw [hk]; exact hl
    obtain ⟨o1, o2, o3⟩ := h.own q x b hx hon hl'
    exact ⟨o1, o2, Nat.lt_of_lt_of_le o3 hgr.size, fun r2 x2 hT2 hx2 hon2 hl2 => hT2 (h.inj r2 x2 q x b hx2 hon2 hx hon hl2 hl')⟩
  · subst hT
    exact ⟨_, getElem?_set_has hlt, hon⟩
  · subst hT
    exact ⟨_, getElem?_set_has hlt, hon⟩

/-- a call that changes a row -/
theorem eff_row (h : Inv K σ gh a w) {f : FuncId} {svs : List SV} {vals : List Value} (hlen : svs.length = vals.length) (hargs : ∀ (j : Nat) s v, svs[j]? = some s → vals[j]? = some v → SV.rel K.Φ K.ρ w gh s v) {G : X} (hG : (G.d K.Φ K.ρ).bool = true) {eo : EO} {S : Sig}
    {q : TypeId × List CT × List (Bool × List CT)} {pre : FuncId → List D → Prop} (hM : MeetsRow P f S q (pre f) (K.Φ f)) (hrun : (∀ w, (callFunc f vals.toArray).run P w = .ok (.enter f vals.toArray) w) → (execOp a.eval o).run P w = .ok (.enter f vals.toArray) w)
    (he : (effRow G S q f svs).run σ.res = some eo) (hn : ∀ n ∈ eo.nd, n.holds pre K.Φ K.ρ) : EffOk K σ P o a w eo := by
  unfold effRow at he
  split at he
  · rename_i r ver rest
    cases vals with
    | nil => simp at hlen
    | cons v vs =>
      have hv := hargs 0 _ v rfl rfl
      obtain ⟨hsl, hver1, hver2, hveq⟩ : SC.rel K.Φ K.ρ w gh (.row r ver) v := hv
      obtain ⟨R, hR, he⟩ := RM.run_res he
      split at he
      · rename_i ety cts content ver' frz hk
        split at he
        · rename_i hcc
          simp only [Bool.and_eq_true, beq_iff_eq, Bool.not_eq_true'] at hcc
          obtain ⟨⟨⟨⟨⟨hg1, hg2⟩, hfz⟩, rfl⟩, he1⟩, hcb⟩ := hcc
          have hcb := CT.beqs_eq _ _ hcb
          subst hfz
          have hon : R.on K := isTt_sound hg2
          obtain ⟨es, wr, he, hok1, hok2, hok3⟩ := argsX_ok h hG he (vs := vs) (by simpa using hlen) (fun j s u hs hu => hargs (j + 1) s u (by simpa using hs) (by simpa using hu))
          split at he
          · rename_i hwr
            have hne : ∀ p ∈ wr, p.1 ≠ r := fun p hp => by simpa using List.all_eq_true.1 hwr p hp
            obtain ⟨gh1, hI1, hle1, b1, r1, v1, f1, g1⟩ := freeze_all h hok1
            have hR1 : (⟨σ.slots, setAll σ.res wr⟩ : St).has r R := by
              unfold St.has at hR ⊢
              show (setAll σ.res wr)[r]? = _
              rw [setAll_off hne]; exact hR
            have hok := hI1.res r R hR1 hon
            rw [hk] at hok
            obtain ⟨hv1, _, _, xs, vals0, hd, hown, hrep⟩ := hok
            have hve : v = gh1.rv r := by rw [r1]; exact hveq (by rw [← v1]; exact hv1)
            subst hve
            have hA := hok3 rfl gh1.F hle1.F f1
            have hpre : pre f ((consX (content :: es)).ds K.Φ K.ρ) := by
              revert he
              split
              · intro he; have := RM.run_done he; subst this; exact hn (.pre f _) (by simp)
              · intro he; have := RM.run_done he; subst this; exact hn (.pre f _) (by simp)
              · intro he; exact (RM.run_fail he).elim
            rw [ds_consX, List.map_cons, hd] at hpre
            have hc := hM.2 w gh1.F (gh1.rv r) vs xs vals0 (es.map (X.d K.Φ K.ρ)) hI1.Flt (by rw [← he1, ← hcb]; exact hown) (by rw [← hcb]; exact hrep)
              (fun b hb => by
                obtain ⟨o1, o2, o3⟩ := hI1.own r R b hR1 hon (by rw [hk]; exact hb)
                exact ⟨o2, o3⟩) hA hpre
            have hcont : ∀ {ys}, K.Φ f (.l xs :: es.map (X.d K.Φ K.ρ)) = [.l ys] → (X.app f (consX (content :: es)) 0).d K.Φ K.ρ = .l ys := fun e => by
              simp only [X.d, ds_consX, List.map_cons, hd, e, List.getD_cons_zero]
            have hlt : r < (setAll σ.res wr).length := (List.getElem?_eq_some_iff.1 hR1).1
            refine Does.enter (hrun (hM.1 _)) (hc.mono fun e w' ⟨v', xs', vals', hfn, hown', hrep', hgr, hfresh, hcase⟩ => ?_)
            rw [← he1, ← hcb] at hown'
            rw [← hcb] at hrep'
            split at he
            · rename_i e' ct' hrs
              have he := RM.run_done he
              subst he
              rw [hrs] at hcase
              simp only [List.isEmpty_cons, Bool.false_eq_true, if_false] at hcase
              obtain ⟨gh', hI', hle', hrv', hvr', hF'⟩ := row_step hI1 (r := r) hlt (ob := ownB (gh1.rv r)) (fun b hb => ⟨R, hR1, hon, by rw [hk]; exact hb⟩) (ver := ver + 1) (by omega) (g := R.g) hon hgr (hcont hfn) hown' hrep' hfresh
              refine ⟨v', hcase, gh', ?_, hown'.slice, by omega, by rw [hvr']; exact Nat.le_refl _, fun _ => hrv'.symm⟩
              rw [setAll_app]
              exact hI'
            · rename_i hrs
              have he := RM.run_done he
              subst he
              rw [hrs] at hcase
              simp only [List.isEmpty_nil, if_true] at hcase
              obtain ⟨hcase, rfl⟩ := hcase
              refine ⟨undef, hcase, gh1, ?_, rfl⟩
              rw [setAll_app]
              exact row_put hI1 hR1 hon hk hgr (hcont hfn) hown' hrep'
            · exact (RM.run_fail he).elim
          · exact (RM.run_fail he).elim
        · exact (RM.run_fail he).elim
      · exact (RM.run_fail he).elim
  · exact (RM.run_fail he).elim

end
end Go.RV
