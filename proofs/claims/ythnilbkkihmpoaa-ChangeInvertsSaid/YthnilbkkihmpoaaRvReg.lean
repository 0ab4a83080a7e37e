/-
  RV, part 13: regions: one operation under its guard; in the text's order; in any order.
-/
import Derived.Test.YthnilbkkihmpoaaRvOps8
namespace Go.RV
open Go.RowKit

section
variable {P : Program} {K : Ctx} {σ : St} {gh : Gh} {a : Act} {w : World} {o : Oper} {sg : FuncId → Option Sig}

theorem getD_none {α : Type} (l : Array α) (n : Nat) (d : α) (h : l[n]? = none) : l.getD n d = d := by
  rw [Array.getD_eq_getD_getElem?, h]; rfl

theorem guard_ok (h : Inv K σ gh a w) {ops : Array Oper} {G : X} (hg : guardOf ops.toList σ o = some G) : Region.wanted o (yielded ops a.tmps) = true ↔ (G.d K.Φ K.ρ).bool = true := by
  unfold guardOf at hg
  unfold Region.wanted
  cases hgd : o.guard with
  | none =>
    rw [hgd] at hg
    simp only [Option.some.injEq] at hg
    subst hg
    simp [tt, X.d]
  | some g =>
    obtain ⟨j, want⟩ := g
    rw [hgd] at hg
    simp only at hg ⊢
    rw [Array.getElem?_toList] at hg
    cases hd : (ops[j]?).bind (·.dst) with
    | none =>
      rw [hd] at hg
      simp only [Option.some.injEq] at hg
      subst hg
      have : yielded ops a.tmps j = none := by unfold yielded; rw [hd]; rfl
      rw [this]
      simp [X.d]
    | some d =>
      rw [hd] at hg
      simp only at hg
      have hslot : SV.rel K.Φ K.ρ w gh (σ.slots.getD d .und) (a.tmps.getD d undef) := h.opd (.tmp d)
      have hval : ∀ b, a.tmps.getD d undef = .bool b → yielded ops a.tmps j = some b := by
        intro b hb
        unfold yielded
        rw [hd]
        simp only [Option.bind_some]
        cases hx : a.tmps[d]? with
        | none => rw [getD_none _ _ _ hx] at hb; simp [undef] at hb
        | some v =>
          rw [Array.getD_eq_getD_getElem?, hx] at hb
          simp only [Option.getD_some] at hb
          subst hb
          rfl
      have hnot : a.tmps.getD d undef = undef → yielded ops a.tmps j = none := by
        intro hb
        unfold yielded
        rw [hd]
        simp only [Option.bind_some]
        cases hx : a.tmps[d]? with
        | none => rfl
        | some v =>
          rw [Array.getD_eq_getD_getElem?, hx] at hb
          simp only [Option.getD_some] at hb
          subst hb
          rfl
      generalize σ.slots.getD d .und = s at *
      unfold guardX at hg
      split at hg
      · rename_i b
        simp only [Option.some.injEq] at hg
        subst hg
        obtain ⟨hv, _⟩ := rep_bool hslot
        rw [hval _ hv]
        simp only [X.d, D.bool_b, beq_iff_eq, Option.some.injEq]
      · rename_i e _
        simp only [Option.some.injEq] at hg
        subst hg
        obtain ⟨hv, _⟩ := rep_bool hslot
        rw [hval _ hv]
        cases want
        · simp [X.d_notX]
        · simp
      · rename_i g e
        simp only [Option.some.injEq] at hg
        subst hg
        unfold SV.rel at hslot
        rw [X.d_andX]
        split at hslot
        · rename_i hgt
          obtain ⟨hv, _⟩ := rep_bool (show Rep w gh.F .bool _ _ from hslot)
          rw [hval _ hv, hgt]
          cases want
          · simp [X.d_notX]
          · simp
        · rename_i hgt
          rw [hnot hslot]
          simp [hgt]
      · simp only [Option.some.injEq] at hg
        subst hg
        rw [hnot hslot]
        simp [X.d]
      · cases hg

def NdOk (K : Ctx) (pre : FuncId → List D → Prop) (nd : List (X × Nd)) : Prop := ∀ n ∈ nd, (n.1.d K.Φ K.ρ).bool = true → n.2.holds pre K.Φ K.ρ

theorem isFf_false {g : X} (h : isFf g = true) : (g.d K.Φ K.ρ).bool = false := by
  cases g <;> simp [isFf] at h
  subst h; rfl

theorem stepOp_ok (h : Inv K σ gh a w) {ops : Array Oper} {id : Nat} {σ1 : St} {nd : List (X × Nd)} (hs : stepOp P sg K.wok ops.toList o id σ = some (σ1, nd)) {pre : FuncId → List D → Prop}
    (hM : ∀ f S, sg f = some S → MeetsAt P f S pre K.Φ) (hn : NdOk K pre nd) {Kn : Act → World → Prop} {Q : Exit → Act → World → Prop} (hk : ∀ gh' a' w', Inv K σ1 gh' a' w' → Kn a' w') :
    if Region.wanted o (yielded ops a.tmps) then o.wp P a w Kn Q ∨ (o.asks P a w ∧ LetsOut Q) else Kn (a.put o.dst undef) w := by
  unfold stepOp at hs
  split at hs
  · cases hs
  · rename_i G hg
    have hgd := guard_ok h hg
    split at hs
    · cases hs
    · rename_i hc
      simp only [Bool.or_eq_true, Bool.not_eq_true', not_or, Bool.not_eq_false] at hc
      obtain ⟨hd, hf⟩ := hc
      have hid : ∀ i, i < makes sg o.op → σ.res[id + i]? = some none := by
        intro i hi
        unfold freshOk at hf
        have hf := List.all_eq_true.1 hf i (by simpa using hi)
        split at hf
        · assumption
        · cases hf
      split at hs
      · rename_i hff
        simp only [Option.some.injEq, Prod.mk.injEq] at hs
        obtain ⟨rfl, rfl⟩ := hs
        have hw : ¬ Region.wanted o (yielded ops a.tmps) = true := by rw [hgd, isFf_false hff]; simp
        rw [if_neg hw]
        exact hk gh _ _ (h.put (s := .und) o.dst rfl hd)
      · split at hs
        · cases hs
        · rename_i eo he
          simp only [Option.some.injEq, Prod.mk.injEq] at hs
          obtain ⟨rfl, rfl⟩ := hs
          split
          · rename_i hw
            have hG := hgd.1 hw
            refine .inl (eff_ok h hG hid hM he (fun n hnm => hn (G, n) (by simp [hnm]) hG) Kn Q fun v w' ⟨gh', hI, hrel⟩ => ?_)
            refine hk gh' _ _ (hI.put (s := if isTt G then eo.val else .grd G eo.val) o.dst ?_ hd)
            split
            · exact hrel
            · unfold SV.rel; rw [if_pos hG]; exact hrel
          · rename_i hw
            have hG : ¬ (G.d K.Φ K.ρ).bool = true := fun hG => hw (hgd.2 hG)
            obtain ⟨gh', hI⟩ := h.offs (eff_off hG hid (fun _ => rfl) he)
            refine hk gh' _ _ (hI.put (s := if isTt G then eo.val else .grd G eo.val) o.dst ?_ hd)
            split
            · rename_i ht; exact absurd (isTt_sound ht) hG
            · unfold SV.rel; rw [if_neg hG]

theorem Inv.addRes (h : Inv K σ gh a w) (n : Nat) : Inv K ⟨σ.slots, σ.res ++ List.replicate n none⟩ gh a w := by
  have e : ∀ r x, (⟨σ.slots, σ.res ++ List.replicate n none⟩ : St).has r x ↔ σ.has r x := by
    intro r x
    unfold St.has
    by_cases hr : r < σ.res.length
    · rw [List.getElem?_append_left hr]
    · rw [List.getElem?_append_right (by omega), List.getElem?_replicate]
      have : σ.res[r]? = none := by simp; omega
      rw [this]
      split <;> simp
  refine ⟨h.defers, h.size, h.slot, h.kept, h.os, h.tape, h.output, h.grow, h.pr, h.prlt, h.Flt, fun r b hb => ?_, fun r hr => ?_, fun r x hx => h.res r x ((e r x).1 hx), fun r x b hx => h.own r x b ((e r x).1 hx),
    fun r x r' x' b hx hon hx' => h.inj r x r' x' b ((e r x).1 hx) hon ((e r' x').1 hx'), h.le0, h.Fpr⟩
  · obtain ⟨x, hx, hon⟩ := h.beta r b hb; exact ⟨x, (e r x).2 hx, hon⟩
  · obtain ⟨x, hx, hon⟩ := h.vr0 r hr; exact ⟨x, (e r x).2 hx, hon⟩

/-! ### operations with their places, the numbers of what they make and what they touch -/
structure It where
  ix : Nat
  o : Oper
  id : Nat
  f : Foot

def Runs (P : Program) (sg : FuncId → Option Sig) (wok : Nat → Bool) (ops : List Oper) : List It → St → St → List (X × Nd) → Prop
  | [], σ, σ', nd => σ = σ' ∧ nd = []
  | it :: rest, σ, σ', nd => ∃ σ1 nd1 nd2, stepOp P sg wok ops it.o it.id σ = some (σ1, nd1) ∧ footOf P sg ops it.o it.id σ = it.f ∧ nd = nd1 ++ nd2 ∧ Runs P sg wok ops rest σ1 σ' nd2

def stepEff (P : Program) (sg : FuncId → Option Sig) (wok : Nat → Bool) (ops : List Oper) (o : Oper) (id : Nat) (σ : St) : Option (SV × List (Nat × Res) × List (X × Nd)) := match guardOf ops σ o with
  | none => none
  | some G => if !dstOk wok o.dst || !freshOk sg o id σ.res then none else
    if isFf G then some (.und, [], []) else
    match (eff P sg G id (fun x => strip G (σ.opd x)) o.op).run σ.res with
    | none => none
    | some eo => some (if isTt G then eo.val else .grd G eo.val, eo.wr, eo.nd.map fun n => (G, n))

theorem stepOp_eff {wok : Nat → Bool} {ops : List Oper} {id : Nat} : stepOp P sg wok ops o id σ = (stepEff P sg wok ops o id σ).map fun x => (⟨putSlot σ.slots o.dst x.1, setAll σ.res x.2.1⟩, x.2.2) := by
  unfold stepOp stepEff
  cases hg : guardOf ops σ o with
  | none => rfl
  | some G =>
    simp only
    cases h1 : (!dstOk wok o.dst || !freshOk sg o id σ.res) with
    | true => rfl
    | false =>
      simp only [Bool.false_eq_true, if_false]
      cases h2 : isFf G with
      | true => rfl
      | false =>
        simp only [Bool.false_eq_true, if_false]
        cases (eff P sg G id (fun x => strip G (σ.opd x)) o.op).run σ.res <;> rfl

theorem footOf_none {ops : List Oper} {id : Nat} (hg : guardOf ops σ o = none) : footOf P sg ops o id σ = ⟨tmpsOf o.op.operands.toList ++ guardTmp ops o, o.dst.toList, (List.range (makes sg o.op)).map (id + ·), []⟩ := by
  simp only [footOf, hg]
theorem footOf_ff {ops : List Oper} {id : Nat} {G : X} (hg : guardOf ops σ o = some G) (hff : isFf G = true) : footOf P sg ops o id σ = ⟨tmpsOf o.op.operands.toList ++ guardTmp ops o, o.dst.toList, (List.range (makes sg o.op)).map (id + ·), []⟩ := by
  simp only [footOf, hg, hff, if_true]
theorem footOf_some {ops : List Oper} {id : Nat} {G : X} (hg : guardOf ops σ o = some G) (hff : isFf G = false) : footOf P sg ops o id σ = ⟨tmpsOf o.op.operands.toList ++ guardTmp ops o, o.dst.toList,
    ((List.range (makes sg o.op)).map (id + ·)) ++ (eff P sg G id (fun x => strip G (σ.opd x)) o.op).reads σ.res, match (eff P sg G id (fun x => strip G (σ.opd x)) o.op).run σ.res with | some eo => eo.wr.map (·.1) | none => []⟩ := by
  simp only [footOf, hg, hff, Bool.false_eq_true, if_false]
  rfl

theorem footOf_rw {wok : Nat → Bool} {ops : List Oper} {id : Nat} {x : SV × List (Nat × Res) × List (X × Nd)} (h : stepEff P sg wok ops o id σ = some x) : (footOf P sg ops o id σ).rw = x.2.1.map (·.1) ∧ (footOf P sg ops o id σ).sw = o.dst.toList := by
  unfold stepEff at h
  split at h
  · cases h
  · rename_i G hg
    split at h
    · cases h
    · split at h
      · rename_i hff
        simp only [Option.some.injEq] at h
        subst h
        rw [footOf_ff hg hff]
        exact ⟨rfl, rfl⟩
      · rename_i hff
        split at h
        · cases h
        · rename_i eo he
          simp only [Option.some.injEq] at h
          subst h
          rw [footOf_some hg (by simpa using hff), he]
          exact ⟨rfl, rfl⟩

theorem step_congr {wok : Nat → Bool} {ops : List Oper} {id : Nat} {σ2 : St} (hs : ∀ t ∈ (footOf P sg ops o id σ).sr, σ2.slots.getD t .und = σ.slots.getD t .und) (hr : ∀ r ∈ (footOf P sg ops o id σ).rr, σ2.res[r]? = σ.res[r]?) :
    stepEff P sg wok ops o id σ2 = stepEff P sg wok ops o id σ ∧ footOf P sg ops o id σ2 = footOf P sg ops o id σ := by
  have hsr : (footOf P sg ops o id σ).sr = tmpsOf o.op.operands.toList ++ guardTmp ops o := by
    cases hg : guardOf ops σ o with
    | none => rw [footOf_none hg]
    | some G => cases hff : isFf G with
      | true => rw [footOf_ff hg hff]
      | false => rw [footOf_some hg hff]
  rw [hsr] at hs
  have hguard : guardOf ops σ2 o = guardOf ops σ o := by
    unfold guardOf
    cases hg : o.guard with
    | none => rfl
    | some g =>
      obtain ⟨j, want⟩ := g
      simp only
      cases hd : (ops[j]?).bind (·.dst) with
      | none => rfl
      | some d =>
        simp only
        rw [hs d (by simp [guardTmp, hg, hd])]
  have hopd : ∀ x ∈ o.op.operands.toList, σ2.opd x = σ.opd x := by
    intro x hx
    cases x with
    | tmp t => exact hs t (List.mem_append_left _ (List.mem_filterMap.2 ⟨.tmp t, hx, rfl⟩))
    | _ => rfl
  have hown : ∀ r ∈ ((List.range (makes sg o.op)).map (id + ·)), σ2.res[r]? = σ.res[r]? := by
    intro r hm
    refine hr r ?_
    cases hg : guardOf ops σ o with
    | none => rw [footOf_none hg]; exact hm
    | some G => cases hff : isFf G with
      | true => rw [footOf_ff hg hff]; exact hm
      | false => rw [footOf_some hg hff]; exact List.mem_append_left _ hm
  have hfresh : freshOk sg o id σ2.res = freshOk sg o id σ.res := by
    unfold freshOk
    have e : ∀ l : List Nat, (∀ i ∈ l, i < makes sg o.op) → (l.all fun i => match σ2.res[id + i]? with | some none => true | _ => false) = (l.all fun i => match σ.res[id + i]? with | some none => true | _ => false) := by
      intro l
      induction l with
      | nil => intro _; rfl
      | cons i l ih =>
        intro hl
        rw [List.all_cons, List.all_cons, ih fun j hj => hl j (by simp [hj]), hown (id + i) (List.mem_map.2 ⟨i, by simpa using hl i (by simp), rfl⟩)]
    exact e _ fun i hi => by simpa using hi
  unfold stepEff footOf
  rw [hguard, hfresh]
  cases hg : guardOf ops σ o with
  | none => exact ⟨rfl, rfl⟩
  | some G =>
    have he : eff P sg G id (fun x => strip G (σ2.opd x)) o.op = eff P sg G id (fun x => strip G (σ.opd x)) o.op := eff_congr fun x hx => by rw [hopd x hx]
    simp only
    rw [he]
    cases hff : isFf G with
    | true => simp
    | false =>
      have hreads : ∀ r ∈ (eff P sg G id (fun x => strip G (σ.opd x)) o.op).reads σ.res, σ.res.getD r none = σ2.res.getD r none := by
        intro r hm
        have := hr r (by rw [footOf_some hg hff]; exact List.mem_append_right _ hm)
        simp only [List.getD, this]
      obtain ⟨h1, h2⟩ := RM.run_congr (rs' := σ2.res) hreads
      rw [h1, h2]
      exact ⟨rfl, rfl⟩

theorem setAll_other : ∀ {wr : List (Nat × Res)} {l : List (Option Res)} {r : Nat}, r ∉ wr.map (·.1) → (setAll l wr)[r]? = l[r]?
  | [], _, _, _ => rfl
  | p :: wr, l, r, h => by
    simp only [List.map_cons, List.mem_cons, not_or] at h
    show (setAll (l.set p.1 (some p.2)) wr)[r]? = l[r]?
    rw [setAll_other h.2, List.getElem?_set, if_neg (fun e => h.1 e.symm)]

theorem setAll_set : ∀ {wr : List (Nat × Res)} {l : List (Option Res)} {r : Nat} {x : Option Res}, r ∉ wr.map (·.1) → setAll (l.set r x) wr = (setAll l wr).set r x
  | [], _, _, _, _ => rfl
  | p :: wr, l, r, x, h => by
    simp only [List.map_cons, List.mem_cons, not_or] at h
    show setAll ((l.set r x).set p.1 (some p.2)) wr = (setAll (l.set p.1 (some p.2)) wr).set r x
    rw [List.set_comm _ _ h.1, setAll_set h.2]

theorem setAll_comm : ∀ {wr wr' : List (Nat × Res)} {l : List (Option Res)}, (∀ r ∈ wr.map (·.1), r ∉ wr'.map (·.1)) → setAll (setAll l wr) wr' = setAll (setAll l wr') wr
  | [], _, _, _ => rfl
  | p :: wr, wr', l, h => by
    show setAll (setAll (l.set p.1 (some p.2)) wr) wr' = setAll ((setAll l wr').set p.1 (some p.2)) wr
    rw [setAll_comm (fun r hr => h r (by simp only [List.map_cons, List.mem_cons]; exact .inr hr)), setAll_set (h p.1 (by simp))]

theorem putSlot_other {l : List SV} {dst : Option Tmp} {v : SV} {t : Nat} (h : t ∉ dst.toList) : (putSlot l dst v).getD t .und = l.getD t .und := by
  cases dst with
  | none => rfl
  | some d =>
    simp only [Option.toList_some, List.mem_singleton] at h
    simp only [putSlot, List.getD, List.getElem?_set]
    rw [if_neg (fun e => h e.symm)]

theorem disj_spec {l m : List Nat} (h : disj l m = true) : ∀ x ∈ l, x ∉ m := by
  intro x hx
  have := List.all_eq_true.1 h x hx
  simpa using this

theorem runs_swap {wok : Nat → Bool} {ops : List Oper} {x y : It} {rest : List It} {σ' : St} {nd : List (X × Nd)} (h : Runs P sg wok ops (x :: y :: rest) σ σ' nd) (hi : indep x.f y.f = true) :
    ∃ nd', Runs P sg wok ops (y :: x :: rest) σ σ' nd' ∧ ∀ n, n ∈ nd' ↔ n ∈ nd := by
  obtain ⟨σ1, nd1, nd2, h1, f1, rfl, σ2, nd3, nd4, h2, f2, rfl, h3⟩ := h
  simp only [indep, Bool.and_eq_true] at hi
  obtain ⟨⟨⟨⟨⟨i1, i2⟩, i3⟩, i4⟩, i5⟩, i6⟩ := hi
  have i1 := disj_spec i1; have i2 := disj_spec i2; have i3 := disj_spec i3; have i4 := disj_spec i4; have i5 := disj_spec i5; have i6 := disj_spec i6
  rw [stepOp_eff] at h1 h2
  cases hx : stepEff P sg wok ops x.o x.id σ with
  | none => rw [hx] at h1; cases h1
  | some ex =>
    rw [hx] at h1
    simp only [Option.map_some, Option.some.injEq, Prod.mk.injEq] at h1
    obtain ⟨rfl, rfl⟩ := h1
    cases hy : stepEff P sg wok ops y.o y.id ⟨putSlot σ.slots x.o.dst ex.1, setAll σ.res ex.2.1⟩ with
    | none => rw [hy] at h2; cases h2
    | some ey =>
      rw [hy] at h2
      simp only [Option.map_some, Option.some.injEq, Prod.mk.injEq] at h2
      obtain ⟨rfl, rfl⟩ := h2
      obtain ⟨rx, sx⟩ := footOf_rw hx
      obtain ⟨ry, sy⟩ := footOf_rw hy
      rw [f1] at rx sx
      rw [f2] at ry sy
      have cy := step_congr (P := P) (sg := sg) (wok := wok) (ops := ops) (o := y.o) (id := y.id) (σ := ⟨putSlot σ.slots x.o.dst ex.1, setAll σ.res ex.2.1⟩) (σ2 := σ)
        (fun t ht => by rw [f2] at ht; exact (putSlot_other fun hm => i1 t (by rw [sx]; exact hm) ht).symm)
        (fun r hr => by rw [f2] at hr; exact (setAll_other fun hm => i4 r (by rw [rx]; exact hm) hr).symm)
      have cx := step_congr (P := P) (sg := sg) (wok := wok) (ops := ops) (o := x.o) (id := x.id) (σ := σ) (σ2 := ⟨putSlot σ.slots y.o.dst ey.1, setAll σ.res ey.2.1⟩)
        (fun t ht => by rw [f1] at ht; exact putSlot_other fun hm => i3 t (by rw [sy]; exact hm) ht)
        (fun r hr => by rw [f1] at hr; exact setAll_other fun hm => i6 r (by rw [ry]; exact hm) hr)
      rw [hy, f2] at cy
      rw [hx, f1] at cx
      refine ⟨ey.2.2 ++ (ex.2.2 ++ nd4), ⟨_, _, _, by rw [stepOp_eff, cy.1]; rfl, cy.2, rfl, _, _, _, by rw [stepOp_eff, cx.1]; rfl, cx.2, rfl, ?_⟩, fun n => by simp only [List.mem_append]; constructor <;> (intro h; rcases h with h | h | h) <;> simp [h]⟩
      have e1 : putSlot (putSlot σ.slots y.o.dst ey.1) x.o.dst ex.1 = putSlot (putSlot σ.slots x.o.dst ex.1) y.o.dst ey.1 := by
        cases hdx : x.o.dst with
        | none => rfl
        | some dx =>
          cases hdy : y.o.dst with
          | none => rfl
          | some dy =>
            have : dx ≠ dy := fun e => i2 dx (by rw [sx, hdx]; simp) (by rw [sy, hdy]; simp [e])
            exact List.set_comm _ _ (Ne.symm this)
      have e2 : setAll (setAll σ.res ey.2.1) ex.2.1 = setAll (setAll σ.res ex.2.1) ey.2.1 := (setAll_comm fun r hr hr' => i5 r (by rw [rx]; exact hr) (by rw [ry]; exact hr')).symm
      rw [e1, e2]
      exact h3

theorem runs_front {wok : Nat → Bool} {ops : List Oper} {x : It} {post : List It} {σ' : St} : ∀ {pre : List It} {σ : St} {nd : List (X × Nd)}, Runs P sg wok ops (pre ++ x :: post) σ σ' nd → (∀ p ∈ pre, indep p.f x.f = true) →
    ∃ nd', Runs P sg wok ops (x :: (pre ++ post)) σ σ' nd' ∧ ∀ n, n ∈ nd' ↔ n ∈ nd
  | [], σ, nd, h, _ => ⟨nd, h, fun _ => Iff.rfl⟩
  | p :: pre, σ, nd, h, hi => by
    obtain ⟨σ1, nd1, nd2, h1, f1, rfl, h2⟩ := h
    obtain ⟨nd', h3, hm⟩ := runs_front h2 (fun q hq => hi q (by simp [hq]))
    obtain ⟨nd'', h4, hm'⟩ := runs_swap (x := p) (y := x) ⟨σ1, nd1, nd', h1, f1, rfl, h3⟩ (hi p (by simp))
    exact ⟨nd'', h4, fun n => by rw [hm' n, List.mem_append, List.mem_append, hm n]⟩

/-- in the text's order -/
theorem lex_ok {ops : Array Oper} {pre : FuncId → List D → Prop} (hM : ∀ f S, sg f = some S → MeetsAt P f S pre K.Φ) {Q : Exit → Act → World → Prop} {σ' : St} (hQ : ∀ gh a w, Inv K σ' gh a w → Q .normal a w) :
    ∀ (todo : List It) {σ : St} {gh : Gh} {a : Act} {w : World} {nd : List (X × Nd)}, Inv K σ gh a w → Runs P sg K.wok ops.toList todo σ σ' nd → NdOk K pre nd → (∀ it ∈ todo, ops[it.ix]? = some it.o) →
    wpOps P ops Q (todo.map (·.ix)) a w
  | [], σ, gh, a, w, nd, h, hr, hn, ho => by
    obtain ⟨rfl, _⟩ := hr
    exact hQ gh a w h
  | it :: todo, σ, gh, a, w, nd, h, hr, hn, ho => by
    obtain ⟨σ1, nd1, nd2, h1, f1, rfl, h2⟩ := hr
    simp only [List.map_cons, wpOps, ho it (by simp)]
    exact stepOp_ok h h1 hM (fun n hm => hn n (by simp [hm])) fun gh' a' w' h' => lex_ok hM hQ todo h' h2 (fun n hm => hn n (by simp [hm])) (fun q hq => ho q (by simp [hq]))

theorem mem_preds {o : Oper} {p : Nat} (h : p ∈ preds o) : ∃ e ∈ o.after.toList, Region.binds .any e = true ∧ e.on = p := by
  unfold preds at h
  obtain ⟨e, he, h⟩ := List.mem_filterMap.1 h
  split at h
  · rename_i hb
    simp only [Option.some.injEq] at h
    exact ⟨e, he, hb, h⟩
  · cases h
theorem reachB_sound {ops : List Oper} {L : Nat → Prop} (hC : ∀ k o, ops[k]? = some o → L k → ∀ p ∈ preds o, L p) {i : Nat} : ∀ (k : Nat) {S : List Nat}, reachB ops i k S = true → (∀ s ∈ S, L s) → L i
  | 0, S, h, hS => hS i (by simpa [reachB] using h)
  | k + 1, S, h, hS => by
    simp only [reachB, Bool.or_eq_true] at h
    rcases h with h | h
    · exact hS i (by simpa using h)
    · refine reachB_sound hC k h fun s hs => ?_
      split at hs
      · rename_i hk
        split at hs
        · rename_i o ho
          rcases List.mem_append.1 hs with hs | hs
          · exact hC k o ho (hS k (by simpa using hk)) s hs
          · exact hS s hs
        · exact hS s hs
      · exact hS s hs

/-- in any order -/
theorem any_ok {ops : Array Oper} {pre : FuncId → List D → Prop} (hM : ∀ f S, sg f = some S → MeetsAt P f S pre K.Φ) {Q : Exit → Act → World → Prop} {σ' : St} (hQ : ∀ gh a w, Inv K σ' gh a w → Q .normal a w) :
    ∀ (fuel : Nat) {todo : List It} {listed : Array Bool} {σ : St} {gh : Gh} {a : Act} {w : World} {nd : List (X × Nd)}, todo.length = fuel → Inv K σ gh a w → Runs P sg K.wok ops.toList todo σ σ' nd → NdOk K pre nd → (∀ it ∈ todo, ops[it.ix]? = some it.o) →
    List.Pairwise (fun x y => x.ix < y.ix ∧ (waits y.o x.ix || indep x.f y.f || before ops.toList y.o x.ix) = true) todo → (∀ it ∈ todo, ∀ e ∈ it.o.after.toList, Region.binds .any e = true → e.on < it.ix) →
    (∀ i, listed.getD i true = false ↔ ∃ it ∈ todo, it.ix = i) → listed.size = ops.size → (∀ k o, ops.toList[k]? = some o → listed.getD k false = true → ∀ p ∈ preds o, listed.getD p false = true) → wpAny P .any ops Q fuel listed a w
  | fuel, todo, listed, σ, gh, a, w, nd, hl, h, hr, hn, ho, hp, hA, hL, hsz, hC => by
    have hready : ∀ i, i ∈ Region.ready .any ops listed ↔ (i < ops.size ∧ listed.getD i true = false ∧ ∃ o, ops[i]? = some o ∧ ∀ e ∈ o.after.toList, Region.binds .any e = true → listed.getD e.on false = true) := by
      intro i
      simp only [Region.ready, List.mem_filter, List.mem_range, Bool.and_eq_true, Bool.not_eq_true']
      refine and_congr_right fun hi => and_congr_right fun _ => ?_
      have : ops[i]? = some ops[i] := by simp [hi]
      rw [this]
      simp only [Option.map_some, Option.getD_some, Option.some.injEq, exists_eq_left']
      rw [Array.all_eq_true_iff_forall_mem]
      simp only [Bool.or_eq_true, Bool.not_eq_true', Array.mem_def]
      constructor
      · intro hh e he hb; rcases hh e he with h1 | h1
        · rw [h1] at hb; cases hb
        · exact h1
      · intro hh e he; cases hb : Region.binds .any e
        · exact .inl rfl
        · exact .inr (hh e he hb)
    have hbool : ∀ i, i < ops.size → listed.getD i false = listed.getD i true := by
      intro i hi
      rw [← hsz] at hi
      simp [Array.getD, hi]
    cases fuel with
    | zero =>
      have : todo = [] := List.length_eq_zero_iff.1 hl
      subst this
      obtain ⟨rfl, _⟩ := hr
      refine ⟨?_, hQ gh a w h⟩
      rw [List.eq_nil_iff_forall_not_mem]
      intro i hi
      obtain ⟨it, hit, _⟩ := (hL i).1 ((hready i).1 hi).2.1
      cases hit
    | succ fuel =>
      refine ⟨fun hnil => ?_, fun i hi => ?_⟩
      · exfalso
        match todo, hl with
        | it :: rest, hl =>
        have hlt : it.ix < ops.size := (Array.getElem?_eq_some_iff.1 (ho it (by simp))).1
        have : it.ix ∈ Region.ready .any ops listed := (hready _).2 ⟨hlt, (hL _).2 ⟨it, by simp, rfl⟩, it.o, ho it (by simp), fun e he hb => by
          have h1 := hA it (by simp) e he hb
          rw [hbool _ (by omega)]
          cases hh : listed.getD e.on true with
          | true => rfl
          | false =>
            obtain ⟨it', hm, e'⟩ := (hL _).1 hh
            cases hm with
            | head => omega
            | tail _ hm =>
              have := (List.pairwise_cons.1 hp).1 it' hm
              omega⟩
        rw [hnil] at this
        cases this
      · obtain ⟨hlt, hun, o, hoi, hedge⟩ := (hready i).1 hi
        obtain ⟨it, hm, rfl⟩ := (hL i).1 hun
        obtain ⟨pre', post, rfl⟩ := List.append_of_mem hm
        have hio := ho it hm
        rw [hoi] at hio
        simp only [Option.some.injEq] at hio
        subst hio
        have hpw := List.pairwise_append.1 hp
        have hind : ∀ p ∈ pre', indep p.f it.f = true := by
          intro p hp'
          obtain ⟨hlt', hw⟩ := hpw.2.2 p hp' it (by simp)
          simp only [Bool.or_eq_true] at hw
          rcases hw with (hw | hw) | hw
          · exfalso
            unfold waits at hw
            rw [List.any_eq_true] at hw
            obtain ⟨e, he, hb⟩ := hw
            simp only [Bool.and_eq_true, beq_iff_eq] at hb
            have h1 := hedge e he hb.1
            rw [hb.2, hbool _ (by omega)] at h1
            have h2 := (hL p.ix).2 ⟨p, by simp [hp'], rfl⟩
            rw [h1] at h2
            cases h2
          · exact hw
          · exfalso
            have h1 : listed.getD p.ix false = true := reachB_sound (L := fun k => listed.getD k false = true) hC _ hw fun s hs => by
              obtain ⟨e, he, hb, rfl⟩ := mem_preds hs
              exact hedge e he hb
            rw [hbool _ (by omega)] at h1
            have h2 := (hL p.ix).2 ⟨p, by simp [hp'], rfl⟩
            rw [h1] at h2
            cases h2
        obtain ⟨nd', hr', hmem⟩ := runs_front hr hind
        obtain ⟨σ1, nd1, nd2, h1, f1, rfl, h2⟩ := hr'
        have hn' : NdOk K pre (nd1 ++ nd2) := fun n hm => hn n ((hmem n).1 hm)
        have hlen : (pre' ++ post).length = fuel := by simp at hl ⊢; omega
        have hsub : List.Sublist (pre' ++ post) (pre' ++ it :: post) := List.Sublist.append (List.Sublist.refl _) (List.sublist_cons_self _ _)
        have hne : ∀ q ∈ pre' ++ post, q.ix ≠ it.ix := by
          intro q hq
          rcases List.mem_append.1 hq with hq | hq
          · have := (hpw.2.2 q hq it (by simp)).1; omega
          · have := ((List.pairwise_cons.1 hpw.2.1).1 q hq).1; omega
        have hL' : ∀ j, (listed.setIfInBounds it.ix true).getD j true = false ↔ ∃ q ∈ pre' ++ post, q.ix = j := by
          intro j
          by_cases e : it.ix = j
          · subst e
            have : (listed.setIfInBounds it.ix true).getD it.ix true = true := by
              simp [Array.getD, hsz, hlt]
            rw [this]
            constructor
            · intro hh; cases hh
            · rintro ⟨q, hq, hq'⟩; exact absurd hq' (hne q hq)
          · have : (listed.setIfInBounds it.ix true).getD j true = listed.getD j true := by
              simp only [Array.getD_eq_getD_getElem?, Array.getElem?_setIfInBounds, if_neg e]
            rw [this, hL j]
            constructor
            · rintro ⟨q, hq, rfl⟩
              rcases List.mem_append.1 hq with hq | hq
              · exact ⟨q, by simp [hq], rfl⟩
              · cases hq with
                | head => exact absurd rfl e
                | tail _ hq => exact ⟨q, List.mem_append_right _ hq, rfl⟩
            · rintro ⟨q, hq, rfl⟩; exact ⟨q, hsub.mem hq, rfl⟩
        have hup : ∀ j, listed.getD j false = true → (listed.setIfInBounds it.ix true).getD j false = true := by
          intro j hj
          by_cases e : it.ix = j
          · subst e; simp [Array.getD, hsz, hlt]
          · simp only [Array.getD_eq_getD_getElem?, Array.getElem?_setIfInBounds, if_neg e] at hj ⊢; exact hj
        have hC' : ∀ k o, ops.toList[k]? = some o → (listed.setIfInBounds it.ix true).getD k false = true → ∀ p ∈ preds o, (listed.setIfInBounds it.ix true).getD p false = true := by
          intro k o hk hkl p hp9
          by_cases e : it.ix = k
          · subst e
            have ho9 : o = it.o := by
              have h9 := ho it hm
              rw [Array.getElem?_toList] at hk
              rw [hk] at h9
              exact Option.some.inj h9
            subst ho9
            obtain ⟨e, he, hb, rfl⟩ := mem_preds hp9
            exact hup _ (hedge e he hb)
          · refine hup _ (hC k o hk ?_ p hp9)
            simp only [Array.getD_eq_getD_getElem?, Array.getElem?_setIfInBounds, if_neg e] at hkl ⊢; exact hkl
        have := stepOp_ok (Q := Q) (Kn := wpAny P .any ops Q fuel (listed.setIfInBounds it.ix true)) h h1 hM (fun n hm => hn' n (by simp [hm])) fun gh' a' w' h' =>
          any_ok hM hQ fuel hlen h' h2 (fun n hm => hn' n (by simp [hm])) (fun q hq => ho q (hsub.mem hq)) (hp.sublist hsub) (fun q hq => hA q (hsub.mem hq)) hL' (by simpa using hsz) hC'
        unfold wpOp
        rw [hoi]
        exact this

def its : Nat → List (Oper × Nat) → List Foot → List It
  | i, (o, id) :: r, f :: fs => ⟨i, o, id, f⟩ :: its (i + 1) r fs
  | _, _, _ => []

theorem runOps_runs {wok : Nat → Bool} {ops : List Oper} : ∀ {l : List (Oper × Nat)} {i : Nat} {σ σ' : St} {nd : List (X × Nd)} {fs : List Foot}, runOps P sg wok ops l σ = some (σ', nd, fs) → Runs P sg wok ops (its i l fs) σ σ' nd ∧ fs.length = l.length
  | [], i, σ, σ', nd, fs, h => by
    simp only [runOps, Option.some.injEq, Prod.mk.injEq] at h
    obtain ⟨rfl, rfl, rfl⟩ := h
    exact ⟨⟨rfl, rfl⟩, rfl⟩
  | (o, id) :: l, i, σ, σ', nd, fs, h => by
    unfold runOps at h
    split at h
    · cases h
    · rename_i σ1 nd1 h1
      split at h
      · cases h
      · rename_i σ2 nd2 fs2 h2
        simp only [Option.some.injEq, Prod.mk.injEq] at h
        obtain ⟨rfl, rfl, rfl⟩ := h
        obtain ⟨r1, r2⟩ := runOps_runs (i := i + 1) h2
        exact ⟨⟨σ1, nd1, nd2, h1, rfl, rfl, r1⟩, by simp [r2]⟩

theorem number_fst : ∀ (l : List Oper) (k : Nat), (number sg k l).map (·.1) = l
  | [], _ => rfl
  | o :: l, k => by simp [number, number_fst l]

theorem its_spec : ∀ {l : List (Oper × Nat)} {fs : List Foot} {i : Nat}, fs.length = l.length → (its i l fs).map (·.ix) = List.range' i l.length ∧ (its i l fs).map (fun it => (it.o, it.f)) = (l.map (·.1)).zip fs ∧ ∀ it ∈ its i l fs, i ≤ it.ix ∧ (l.map (·.1))[it.ix - i]? = some it.o
  | [], fs, i, h => by
    cases fs with
    | nil => simp [its]
    | cons => simp at h
  | (o, id) :: l, fs, i, h => by
    cases fs with
    | nil => simp at h
    | cons f fs =>
      obtain ⟨h1, h2, h3⟩ := its_spec (l := l) (fs := fs) (i := i + 1) (by simpa using h)
      refine ⟨by simp [its, h1, List.range'_succ], by simp [its, h2], fun it hm => ?_⟩
      cases hm with
      | head => simp
      | tail _ hm =>
        obtain ⟨h4, h5⟩ := h3 it hm
        refine ⟨by omega, ?_⟩
        have : it.ix - i = (it.ix - (i + 1)) + 1 := by omega
        rw [this]
        simpa using h5

theorem allFree_spec {ops : List Oper} : ∀ {l : List It} {i : Nat}, l.map (·.ix) = List.range' i l.length → allFree ops i (l.map fun it => (it.o, it.f)) = true →
    List.Pairwise (fun x y => x.ix < y.ix ∧ (waits y.o x.ix || indep x.f y.f || before ops y.o x.ix) = true) l ∧ ∀ it ∈ l, ∀ e ∈ it.o.after.toList, Region.binds .any e = true → e.on < it.ix
  | [], i, _, _ => ⟨List.Pairwise.nil, by simp⟩
  | it :: l, i, hi, h => by
    simp only [List.map_cons, List.length_cons, List.range'_succ, List.cons.injEq] at hi
    obtain ⟨hi1, hi2⟩ := hi
    simp only [List.map_cons, allFree, Bool.and_eq_true] at h
    obtain ⟨⟨h1, h2⟩, h3⟩ := h
    obtain ⟨p1, p2⟩ := allFree_spec hi2 h3
    have hfree : ∀ (m : List It), freeOf ops i it.f (m.map fun it => (it.o, it.f)) = true → ∀ y ∈ m, (waits y.o i || indep it.f y.f || before ops y.o i) = true := by
      intro m
      induction m with
      | nil => intro _ y hy; cases hy
      | cons z m ih =>
        intro hf y hy
        simp only [List.map_cons, freeOf, Bool.and_eq_true] at hf
        cases hy with
        | head => exact hf.1
        | tail _ hy => exact ih hf.2 y hy
    refine ⟨List.pairwise_cons.2 ⟨fun y hy => ⟨?_, by rw [hi1]; exact hfree l h2 y hy⟩, p1⟩, fun q hq e he hb => ?_⟩
    · have : y.ix ∈ l.map (·.ix) := List.mem_map.2 ⟨y, hy, rfl⟩
      rw [hi2, List.mem_range'_1] at this
      omega
    · cases hq with
      | head =>
        have := List.all_eq_true.1 h1 e he
        rw [hb] at this
        simp only [Bool.not_true, Bool.false_or] at this
        have := Nat.le_of_ble_eq_true this
        omega
      | tail _ hq => exact p2 q hq e he hb

theorem region_ok0 (h : Inv K σ gh a w) {ops : Array Oper} {draw : Bool} {rid : Nat} {σ' : St} {nd : List (X × Nd)} (hreg : regionEx0 P sg K.wok ops draw σ = some (σ', nd)) (hm : P.follows .mixedOrders = true) {pre : FuncId → List D → Prop}
    (hM : ∀ f S, sg f = some S → MeetsAt P f S pre K.Φ) (hn : NdOk K pre nd) {Q : Exit → Act → World → Prop} (hQ : ∀ gh a w, Inv K σ' gh a w → Q .normal a w) : (Code.region rid ops draw).wp P Q a w := by
  unfold regionEx0 at hreg
  simp only at hreg
  split at hreg
  · cases hreg
  · rename_i σ2 nd2 fs hrun
    split at hreg
    · rename_i hc
      simp only [Option.some.injEq, Prod.mk.injEq] at hreg
      obtain ⟨rfl, rfl⟩ := hreg
      have h0 := h.addRes (countMakes sg ops.toList)
      obtain ⟨hruns, hfl⟩ := runOps_runs (i := 0) hrun
      obtain ⟨s1, s2, s3⟩ := its_spec (i := 0) hfl
      rw [number_fst] at s2 s3
      have hnl : (number sg σ.res.length ops.toList).length = ops.size := by
        have := congrArg List.length (number_fst (sg := sg) ops.toList σ.res.length)
        simpa using this
      have hops : ∀ it ∈ its 0 (number sg σ.res.length ops.toList) fs, ops[it.ix]? = some it.o := by
        intro it hit
        have := (s3 it hit).2
        simpa using this
      have hix : (its 0 (number sg σ.res.length ops.toList) fs).map (·.ix) = List.range ops.size := by
        rw [s1, hnl, List.range_eq_range']
      cases draw with
      | false =>
        refine wp_region ?_
        rw [← hix]
        exact lex_ok hM hQ _ h0 hruns hn hops
      | true =>
        simp only [Bool.not_true, Bool.false_or, Bool.and_eq_true] at hc
        have hlen : (its 0 (number sg σ.res.length ops.toList) fs).length = ops.size := by
          have := congrArg List.length hix
          simpa using this
        obtain ⟨p1, p2⟩ := allFree_spec (ops := ops.toList) (i := 0) (l := its 0 (number sg σ.res.length ops.toList) fs) (by rw [hix, hlen, List.range_eq_range']) (by rw [s2]; exact hc.2)
        refine wp_region_any hm ?_
        have hI : Inv K ⟨σ.slots, σ.res ++ List.replicate (countMakes sg ops.toList) none⟩ gh a { w with drawn := w.drawn + 1 } := by
          refine ⟨h0.defers, h0.size, fun n s hs => SV.rel_mono (w := w) (w' := { w with drawn := w.drawn + 1 }) (Gh.le.refl gh) (fun _ _ => rfl) (h0.slot n s hs), h0.kept, h0.os, h0.tape, h0.output, h0.grow, h0.pr, h0.prlt, h0.Flt, h0.beta, h0.vr0,
            fun r x hx hon => (h0.res r x hx hon).keep (w' := { w with drawn := w.drawn + 1 }) (Gh.le.refl gh) rfl rfl rfl (fun _ _ => rfl) (fun _ _ => rfl), h0.own, h0.inj, h0.le0, h0.Fpr⟩
        refine any_ok hM hQ ops.size hlen hI hruns hn hops p1 p2 (fun i => ?_) (by simp) (fun k o _ hkl => by
          exfalso
          by_cases hk : k < ops.size <;> simp [Array.getD, hk] at hkl)
        have : (Array.replicate ops.size false).getD i true = false ↔ i < ops.size := by
          by_cases hi : i < ops.size <;> simp [Array.getD, hi]
        rw [this]
        have hmem : i ∈ (its 0 (number sg σ.res.length ops.toList) fs).map (·.ix) ↔ i < ops.size := by rw [hix, List.mem_range]
        rw [← hmem, List.mem_map]
    · cases hreg

theorem frzRow_ok (h : Inv K σ gh a w) (r : Nat) : ∃ gh', Inv K ⟨σ.slots, frzRow σ.res r⟩ gh' a w := by
  unfold frzRow
  split
  · rename_i g e cts c v hr
    split
    · rename_i hg
      obtain ⟨gh', h', _⟩ := freeze_one h (p := (r, ⟨g, .row e cts c v true⟩)) ⟨_, getD_has hr, isTt_sound hg, .inr ⟨_, _, _, _, rfl, rfl⟩⟩
      exact ⟨gh', h'⟩
    · exact ⟨gh, h⟩
  · exact ⟨gh, h⟩
theorem frzRows_ok : ∀ {rs : List Nat} {σ : St} {gh : Gh}, Inv K σ gh a w → ∃ gh', Inv K (frzRows rs σ) gh' a w
  | [], σ, gh, h => ⟨gh, h⟩
  | r :: rs, σ, gh, h => by
    obtain ⟨gh', h'⟩ := frzRow_ok h r
    exact frzRows_ok (rs := rs) h'
theorem region_ok (h : Inv K σ gh a w) {ops : Array Oper} {draw : Bool} {rid : Nat} {σ' : St} {nd : List (X × Nd)} (hreg : regionEx P sg K.wok ops draw σ = some (σ', nd)) (hm : P.follows .mixedOrders = true) {pre : FuncId → List D → Prop}
    (hM : ∀ f S, sg f = some S → MeetsAt P f S pre K.Φ) (hn : NdOk K pre nd) {Q : Exit → Act → World → Prop} (hQ : ∀ gh a w, Inv K σ' gh a w → Q .normal a w) : (Code.region rid ops draw).wp P Q a w := by
  obtain ⟨gh', h'⟩ := frzRows_ok (rs := twice P sg K.wok ops.toList σ) h
  exact region_ok0 h' hreg hm hM hn hQ

/-- two rows change places: nothing happens in memory -/
theorem rowSwap_ok (h : Inv K σ gh a w) (p : Nat × Nat) : ∃ gh', Inv K (rowSwap σ p) gh' a w := by
  obtain ⟨r, q⟩ := p
  unfold rowSwap
  split
  · rename_i g e c x v z g' e' c' x' v' z' hr hq
    simp only at hr hq
    split
    · rename_i hc
      simp only [Bool.and_eq_true, Bool.not_eq_true', beq_eq_false_iff_ne, ne_eq] at hc
      obtain ⟨⟨hg, hg'⟩, hne⟩ := hc
      have hr := getD_has hr
      have hq := getD_has hq
      have hon := isTt_sound (Φ := K.Φ) (ρ := K.ρ) hg
      have hon' := isTt_sound (Φ := K.Φ) (ρ := K.ρ) hg'
      obtain ⟨a1, a2, a3, a4⟩ := h.res r _ hr hon
      obtain ⟨b1, b2, b3, b4⟩ := h.res q _ hq hon'
      have hlr : r < σ.res.length := (List.getElem?_eq_some_iff.1 hr).1
      have hlq : q < σ.res.length := (List.getElem?_eq_some_iff.1 hq).1
      let gh' : Gh := { gh with rv := fun i => if i = r then gh.rv q else if i = q then gh.rv r else gh.rv i, vr := fun i => if i = r then v + 1 else if i = q then v' + 1 else gh.vr i }
      have rr : gh'.rv r = gh.rv q := by simp [gh']
      have rq : gh'.rv q = gh.rv r := by simp [gh', Ne.symm hne]
      have vr : gh'.vr r = v + 1 := by simp [gh']
      have vq : gh'.vr q = v' + 1 := by simp [gh', Ne.symm hne]
      have ro : ∀ i, i ≠ r → i ≠ q → gh'.rv i = gh.rv i ∧ gh'.vr i = gh.vr i := fun i h1 h2 => by simp [gh', h1, h2]
      have hle : gh.le gh' := ⟨fun _ _ h => h, fun i => by
          by_cases h1 : i = r
          · subst h1; rw [vr]; omega
          · by_cases h2 : i = q
            · subst h2; rw [vq]; omega
            · rw [(ro i h1 h2).2]; exact Nat.le_refl _,
        fun i h1 h2 => by
          by_cases h3 : i = r
          · subst h3; rw [vr] at h2; omega
          · by_cases h4 : i = q
            · subst h4; rw [vq] at h2; omega
            · exact (ro i h3 h4).1, fun _ h => h⟩
      have gr : ((σ.res.set r (some ⟨g', .row e' c' x' (v + 1) z'⟩)).set q (some ⟨g, .row e c x (v' + 1) z⟩))[r]? = some (some ⟨g', .row e' c' x' (v + 1) z'⟩) := by
        rw [List.getElem?_set, if_neg (Ne.symm hne), getElem?_set_has hlr]
      have gq : ((σ.res.set r (some ⟨g', .row e' c' x' (v + 1) z'⟩)).set q (some ⟨g, .row e c x (v' + 1) z⟩))[q]? = some (some ⟨g, .row e c x (v' + 1) z⟩) := by
        rw [getElem?_set_has (by simpa using hlq)]
      have h1 : Inv K ⟨σ.slots, (σ.res.set r (some ⟨g', .row e' c' x' (v + 1) z'⟩)).set q (some ⟨g, .row e c x (v' + 1) z⟩)⟩ gh' a w := by
        refine h.step (T := fun i => i = r ∨ i = q) ⟨hle, rfl, rfl, rfl, Nat.le_refl _, fun i hi => ?_, fun _ _ _ => rfl, h.Flt, fun b hb => .inl hb, fun i y hT hy hony => ?_, fun i y b hT hy hony hl => ?_, fun i y i' y' b hT hT' hy _ hy' _ hl hl' => ?_, fun i b hT hb => ?_, fun i hT _ => ?_⟩
        · simp only [not_or] at hi
          exact ⟨by rw [List.getElem?_set, if_neg (Ne.symm hi.2), List.getElem?_set, if_neg (Ne.symm hi.1)], rfl, ro i hi.1 hi.2⟩
        · rcases hT with rfl | rfl
          · rw [gr] at hy
            simp only [Option.some.injEq] at hy
            subst hy
            refine ⟨vr, by omega, by rw [rr]; exact b3, ?_⟩
            rw [rr]
            exact b4
          · rw [gq] at hy
            simp only [Option.some.injEq] at hy
            subst hy
            refine ⟨vq, by omega, by rw [rq]; exact a3, ?_⟩
            rw [rq]
            exact a4
        · have key : ∃ (i0 : Nat) (y0 : Res), (i0 = r ∨ i0 = q) ∧ σ.has i0 y0 ∧ y0.on K ∧ y0.k.live gh i0 = some b := by
            rcases hT with rfl | rfl
            · rw [gr] at hy
              simp only [Option.some.injEq] at hy
              subst hy
              refine ⟨q, _, .inr rfl, hq, hon', ?_⟩
              rw [← hl]
              cases z' <;> simp [RK.live, rr]
            · rw [gq] at hy
              simp only [Option.some.injEq] at hy
              subst hy
              refine ⟨r, _, .inl rfl, hr, hon, ?_⟩
              rw [← hl]
              cases z <;> simp [RK.live, rq]
          obtain ⟨i0, y0, k1, k2, k3, k4⟩ := key
          obtain ⟨o1, o2, o3⟩ := h.own i0 y0 b k2 k3 k4
          refine ⟨o1, o2, o3, fun r2 x2 hT2 hx2 hon2 hl2 => hT2 ?_⟩
          rw [h.inj r2 x2 i0 y0 b hx2 hon2 k2 k3 hl2 k4]
          exact k1
        · have hx : ∀ i y, (i = r ∨ i = q) → ((σ.res.set r (some ⟨g', .row e' c' x' (v + 1) z'⟩)).set q (some ⟨g, .row e c x (v' + 1) z⟩))[i]? = some (some y) → y.k.live gh' i = some b → (i = r → (Res.mk g' (.row e' c' x' v' z')).k.live gh q = some b) ∧ (i = q → (Res.mk g (.row e c x v z)).k.live gh r = some b) := by
            intro i y hT hy hl
            refine ⟨fun e1 => ?_, fun e1 => ?_⟩
            · subst e1
              rw [gr] at hy
              simp only [Option.some.injEq] at hy
              subst hy
              rw [← hl]
              cases z' <;> simp [RK.live, rr]
            · subst e1
              rw [gq] at hy
              simp only [Option.some.injEq] at hy
              subst hy
              rw [← hl]
              cases z <;> simp [RK.live, rq]
          obtain ⟨p1, p2⟩ := hx i y hT hy hl
          obtain ⟨p3, p4⟩ := hx i' y' hT' hy' hl'
          rcases hT with e1 | e1 <;> rcases hT' with e2 | e2
          · rw [e1, e2]
          · exact absurd (h.inj q _ r _ b hq hon' hr hon (p1 e1) (p4 e2)) (Ne.symm hne)
          · exact absurd (h.inj r _ q _ b hr hon hq hon' (p2 e1) (p3 e2)) hne
          · rw [e1, e2]
        · rcases hT with rfl | rfl
          · exact ⟨_, gr, hon'⟩
          · exact ⟨_, gq, hon⟩
        · rcases hT with rfl | rfl
          · exact ⟨_, gr, hon'⟩
          · exact ⟨_, gq, hon⟩
      refine ⟨gh', h1.defers, by simp [h1.size], fun n s hs => ?_, h1.kept, h1.os, h1.tape, h1.output, h1.grow, h1.pr, h1.prlt, h1.Flt, h1.beta, h1.vr0, h1.res, h1.own, h1.inj, h1.le0, h1.Fpr⟩
      simp only [List.getElem?_map, Option.map_eq_some_iff] at hs
      obtain ⟨s0, hs0, rfl⟩ := hs
      have hrel := h1.slot n s0 hs0
      unfold swapSlot
      split
      · rename_i p u
        split
        · rename_i hpu
          simp only [Bool.and_eq_true, beq_iff_eq] at hpu
          obtain ⟨rfl, rfl⟩ := hpu
          obtain ⟨k1, _, _, k4⟩ : SC.rel K.Φ K.ρ w gh (.row p u) _ := h.slot n _ hs0
          exact ⟨k1, by omega, by rw [vr]; exact Nat.le_refl _, fun _ => by rw [rr]; exact k4 b1⟩
        · exact hrel
      · exact hrel
    · exact ⟨gh, h⟩
  · exact ⟨gh, h⟩
theorem alignRows_ok (hd : St) (h : Inv K σ gh a w) : ∃ gh', Inv K (alignRows hd σ) gh' a w := by
  unfold alignRows
  generalize swapsOf hd σ = l
  induction l generalizing σ gh with
  | nil => exact ⟨gh, h⟩
  | cons p l ih =>
    obtain ⟨gh', h'⟩ := rowSwap_ok h p
    exact ih h'

end
end Go.RV
