/-
 RV, part 13: regions: one operation under its guard; in the text's order; in any order.; RV, part 13b: names for what calls give: the state with names tells what the state tells.; RV, part 16: code; loops.; RV, part 16b: conditions without what is known already.
-/
import Derived.Test.YtinaaabmmjpijaaDoorZTopGrowsF
namespace Go.RV
open Go.RowKit
section
variable {P : Program} {K : Ctx} {σ : St} {gh : Gh} {a : Act} {w : World} {o : Oper} {sg : FuncId → Option Sig}
theorem getD_none {α : Type} (l : Array α) (n : Nat) (d : α) (h : l[n]? = none) : l.getD n d = d := by
 rw [Array.getD_eq_getD_getElem?, h]; rfl
theorem guard_ok (h : Inv K σ gh a w) {ops : Array Oper} {G : X} (hg : guardOf ops.toList σ o = some G) : Region.wanted o (yielded ops a.tmps) = true ↔ (G.d K.Φ K.ρ).bool = true := by
 unfold guardOf at hg
 unfold Region.wanted
 cases hgd : o.guard with
 | none =>
  rw [hgd] at hg
  simp only [si0] at hg
  subst hg
  simp [tt, X.d]
 | some g =>
  obtain ⟨j, want⟩ := g
  rw [hgd] at hg
  simp only at hg ⊢
  rw [Array.getElem?_toList] at hg
  cases hd : (ops[j]?).bind (·.dst) with
  | none =>
   rw [hd] at hg
   simp only [si0] at hg
   subst hg
   have : yielded ops a.tmps j = none := by unfold yielded; rw [hd]; rfl
   rw [this]
   simp [X.d]
  | some d =>
   rw [hd] at hg
   simp only at hg
   have hslot : SV.rel K.Φ K.ρ w gh (σ.slots.getD d .und) (a.tmps.getD d undef) := h.opd (.tmp d)
   have hval : ∀ b, a.tmps.getD d undef = .bool b → yielded ops a.tmps j = some b := by
    intro b hb
    unfold yielded
    rw [hd]
    simp only [Option.bind_some]
    cases hx : a.tmps[d]? with
    | none => rw [getD_none _ _ _ hx] at hb; simp [undef] at hb
    | some v =>
     rw [Array.getD_eq_getD_getElem?, hx] at hb
     simp only [Option.getD_some] at hb
     subst hb
     rfl
   have hnot : a.tmps.getD d undef = undef → yielded ops a.tmps j = none := by
    intro hb
    unfold yielded
    rw [hd]
    simp only [Option.bind_some]
    cases hx : a.tmps[d]? with
    | none => rfl
    | some v =>
     rw [Array.getD_eq_getD_getElem?, hx] at hb
     simp only [Option.getD_some] at hb
     subst hb
     rfl
   generalize σ.slots.getD d .und = s at *
   unfold guardX at hg
   split at hg
   ·rename_i b
    simp only [si0] at hg
    subst hg
    obtain ⟨hv, _⟩ := rep_bool hslot
    rw [hval _ hv]
    simp only [X.d, D.bool_b, beq_iff_eq, si0]
   ·rename_i e _
    simp only [si0] at hg
    subst hg
    obtain ⟨hv, _⟩ := rep_bool hslot
    rw [hval _ hv]
    cases want
    ·simp [X.d_notX]
    ·simp
   ·rename_i g e
    simp only [si0] at hg
    subst hg
    unfold SV.rel at hslot
    rw [X.d_andX]
    split at hslot
    ·rename_i hgt
     obtain ⟨hv, _⟩ := rep_bool (show Rep w gh.F .bool _ _ from hslot)
     rw [hval _ hv, hgt]
     cases want
     ·simp [X.d_notX]
     ·simp
    ·rename_i hgt
     rw [hnot hslot]
     simp [hgt]
   ·simp only [si0] at hg
    subst hg
    rw [hnot hslot]
    simp [X.d]
   ·cases hg
def NdOk (K : Ctx) (pre : FuncId → List D → Prop) (nd : List (X × Nd)) : Prop := ∀ n ∈ nd, (n.1.d K.Φ K.ρ).bool = true → n.2.holds pre K.Φ K.ρ
theorem isFf_false {g : X} (h : isFf g = true) : (g.d K.Φ K.ρ).bool = false := by
 cases g <;> simp [isFf] at h
 subst h; rfl
theorem stepOp_ok (h : Inv K σ gh a w) {ops : Array Oper} {id : Nat} {σ1 : St} {nd : List (X × Nd)} (hs : stepOp P sg K.wok ops.toList o id σ = some (σ1, nd)) {pre : FuncId → List D → Prop}
  (hM : ∀ f S, sg f = some S → MeetsAt P f S pre K.Φ) (hn : NdOk K pre nd) {Kn : Act → World → Prop} {Q : Exit → Act → World → Prop} (hk : ∀ gh' a' w', Inv K σ1 gh' a' w' → Kn a' w') :
  if Region.wanted o (yielded ops a.tmps) then o.wp P a w Kn Q ∨ (o.asks P a w ∧ LetsOut Q) else Kn (a.put o.dst undef) w := by
 unfold stepOp at hs
 split at hs
 ·cases hs
 ·rename_i G hg
  have hgd := guard_ok h hg
  split at hs
  ·cases hs
  ·rename_i hc
   simp only [Bool.or_eq_true, Bool.not_eq_true', not_or, Bool.not_eq_false] at hc
   obtain ⟨hd, hf⟩ := hc
   have hid : ∀ i, i < makes sg o.op → σ.res[id + i]? = some none := by
    intro i hi
    unfold freshOk at hf
    have hf := List.all_eq_true.1 hf i (by simpa using hi)
    split at hf
    ·assumption
    ·cases hf
   split at hs
   ·rename_i hff
    simp only [si0, Prod.mk.injEq] at hs
    obtain ⟨rfl, rfl⟩ := hs
    have hw : ¬ Region.wanted o (yielded ops a.tmps) = true := by rw [hgd, isFf_false hff]; simp
    rw [if_neg hw]
    exact hk gh _ _ (h.put (s := .und) o.dst rfl hd)
   ·split at hs
    ·cases hs
    ·rename_i eo he
     simp only [si0, Prod.mk.injEq] at hs
     obtain ⟨rfl, rfl⟩ := hs
     split
     ·rename_i hw
      have hG := hgd.1 hw
      refine .inl (eff_ok h hG hid hM he (fun n hnm => hn (G, n) (by simp [hnm]) hG) Kn Q fun v w' ⟨gh', hI, hrel⟩ => ?_)
      refine hk gh' _ _ (hI.put (s := if isTt G then eo.val else .grd G eo.val) o.dst ?_ hd)
      split
      ·exact hrel
      ·unfold SV.rel; rw [if_pos hG]; exact hrel
     ·rename_i hw
      have hG : ¬ (G.d K.Φ K.ρ).bool = true := fun hG => hw (hgd.2 hG)
      obtain ⟨gh', hI⟩ := h.offs (eff_off hG hid (fun _ => rfl) he)
      refine hk gh' _ _ (hI.put (s := if isTt G then eo.val else .grd G eo.val) o.dst ?_ hd)
      split
      ·rename_i ht; exact absurd (isTt_sound ht) hG
      ·unfold SV.rel; rw [if_neg hG]
theorem Inv.addRes (h : Inv K σ gh a w) (n : Nat) : Inv K ⟨σ.slots, σ.res ++ List.replicate n none⟩ gh a w := by
 have e : ∀ r x, (⟨σ.slots, σ.res ++ List.replicate n none⟩ : St).has r x ↔ σ.has r x := by
  intro r x
  unfold St.has
  by_cases hr : r < σ.res.length
  ·rw [List.getElem?_append_left hr]
  ·rw [List.getElem?_append_right (by omega), List.getElem?_replicate]
   have : σ.res[r]? = none := by simp; omega
   rw [this]
   split <;> simp
 refine ⟨h.defers, h.size, h.slot, h.kept, h.os, h.tape, h.output, h.grow, h.pr, h.prlt, h.Flt, fun r b hb => ?_, fun r hr => ?_, fun r x hx => h.res r x ((e r x).1 hx), fun r x b hx => h.own r x b ((e r x).1 hx),
  fun r x r' x' b hx hon hx' => h.inj r x r' x' b ((e r x).1 hx) hon ((e r' x').1 hx'), h.le0, h.Fpr, h.tab⟩
 ·obtain ⟨x, hx, hon⟩ := h.beta r b hb; exact ⟨x, (e r x).2 hx, hon⟩
 ·obtain ⟨x, hx, hon⟩ := h.vr0 r hr; exact ⟨x, (e r x).2 hx, hon⟩
structure It where
 ix : Nat
 o : Oper
 id : Nat
 f : Foot
def Runs (P : Program) (sg : FuncId → Option Sig) (wok : Nat → Bool) (ops : List Oper) : List It → St → St → List (X × Nd) → Prop
 | [], σ, σ', nd => σ = σ' ∧ nd = []
 | it :: rest, σ, σ', nd => ∃ σ1 nd1 nd2, stepOp P sg wok ops it.o it.id σ = some (σ1, nd1) ∧ footOf P sg ops it.o it.id σ = it.f ∧ nd = nd1 ++ nd2 ∧ Runs P sg wok ops rest σ1 σ' nd2
def stepEff (P : Program) (sg : FuncId → Option Sig) (wok : Nat → Bool) (ops : List Oper) (o : Oper) (id : Nat) (σ : St) : Option (SV × List (Nat × Res) × List (X × Nd)) := match guardOf ops σ o with
 | none => none
 | some G => if !dstOk wok o.dst || !freshOk sg o id σ.res then none else
  if isFf G then some (.und, [], []) else
  match (eff P sg G id (fun x => strip G (σ.opd x)) o.op).run σ.res with
  | none => none
  | some eo => some (if isTt G then eo.val else .grd G eo.val, eo.wr, eo.nd.map fun n => (G, n))
theorem stepOp_eff {wok : Nat → Bool} {ops : List Oper} {id : Nat} : stepOp P sg wok ops o id σ = (stepEff P sg wok ops o id σ).map fun x => (⟨putSlot σ.slots o.dst x.1, setAll σ.res x.2.1⟩, x.2.2) := by
 unfold stepOp stepEff
 cases hg : guardOf ops σ o with
 | none => rfl
 | some G =>
  simp only
  cases h1 : (!dstOk wok o.dst || !freshOk sg o id σ.res) with
  | true => rfl
  | false =>
   simp only [fe0, if_false]
   cases h2 : isFf G with
   | true => rfl
   | false =>
    simp only [fe0, if_false]
    cases (eff P sg G id (fun x => strip G (σ.opd x)) o.op).run σ.res <;> rfl
theorem footOf_none {ops : List Oper} {id : Nat} (hg : guardOf ops σ o = none) : footOf P sg ops o id σ = ⟨tmpsOf o.op.operands.toList ++ guardTmp ops o, o.dst.toList, (List.range (makes sg o.op)).map (id + ·), []⟩ := by
 simp only [footOf, hg]
theorem footOf_ff {ops : List Oper} {id : Nat} {G : X} (hg : guardOf ops σ o = some G) (hff : isFf G = true) : footOf P sg ops o id σ = ⟨tmpsOf o.op.operands.toList ++ guardTmp ops o, o.dst.toList, (List.range (makes sg o.op)).map (id + ·), []⟩ := by
 simp only [footOf, hg, hff, if_true]
theorem footOf_some {ops : List Oper} {id : Nat} {G : X} (hg : guardOf ops σ o = some G) (hff : isFf G = false) : footOf P sg ops o id σ = ⟨tmpsOf o.op.operands.toList ++ guardTmp ops o, o.dst.toList,
  ((List.range (makes sg o.op)).map (id + ·)) ++ (eff P sg G id (fun x => strip G (σ.opd x)) o.op).reads σ.res, match (eff P sg G id (fun x => strip G (σ.opd x)) o.op).run σ.res with | some eo => eo.wr.map (·.1) | none => []⟩ := by
 simp only [footOf, hg, hff, fe0, if_false]
 rfl
theorem footOf_rw {wok : Nat → Bool} {ops : List Oper} {id : Nat} {x : SV × List (Nat × Res) × List (X × Nd)} (h : stepEff P sg wok ops o id σ = some x) : (footOf P sg ops o id σ).rw = x.2.1.map (·.1) ∧ (footOf P sg ops o id σ).sw = o.dst.toList := by
 unfold stepEff at h
 split at h
 ·cases h
 ·rename_i G hg
  split at h
  ·cases h
  ·split at h
   ·rename_i hff
    simp only [si0] at h
    subst h
    rw [footOf_ff hg hff]
    exact ⟨rfl, rfl⟩
   ·rename_i hff
    split at h
    ·cases h
    ·rename_i eo he
     simp only [si0] at h
     subst h
     rw [footOf_some hg (by simpa using hff), he]
     exact ⟨rfl, rfl⟩
theorem step_congr {wok : Nat → Bool} {ops : List Oper} {id : Nat} {σ2 : St} (hs : ∀ t ∈ (footOf P sg ops o id σ).sr, σ2.slots.getD t .und = σ.slots.getD t .und) (hr : ∀ r ∈ (footOf P sg ops o id σ).rr, σ2.res[r]? = σ.res[r]?) :
  stepEff P sg wok ops o id σ2 = stepEff P sg wok ops o id σ ∧ footOf P sg ops o id σ2 = footOf P sg ops o id σ := by
 have hsr : (footOf P sg ops o id σ).sr = tmpsOf o.op.operands.toList ++ guardTmp ops o := by
  cases hg : guardOf ops σ o with
  | none => rw [footOf_none hg]
  | some G => cases hff : isFf G with
   | true => rw [footOf_ff hg hff]
   | false => rw [footOf_some hg hff]
 rw [hsr] at hs
 have hguard : guardOf ops σ2 o = guardOf ops σ o := by
  unfold guardOf
  cases hg : o.guard with
  | none => rfl
  | some g =>
   obtain ⟨j, want⟩ := g
   simp only
   cases hd : (ops[j]?).bind (·.dst) with
   | none => rfl
   | some d =>
    simp only
    rw [hs d (by simp [guardTmp, hg, hd])]
 have hopd : ∀ x ∈ o.op.operands.toList, σ2.opd x = σ.opd x := by
  intro x hx
  cases x with
  | tmp t => exact hs t (List.mem_append_left _ (List.mem_filterMap.2 ⟨.tmp t, hx, rfl⟩))
  | _ => rfl
 have hown : ∀ r ∈ ((List.range (makes sg o.op)).map (id + ·)), σ2.res[r]? = σ.res[r]? := by
  intro r hm
  refine hr r ?_
  cases hg : guardOf ops σ o with
  | none => rw [footOf_none hg]; exact hm
  | some G => cases hff : isFf G with
   | true => rw [footOf_ff hg hff]; exact hm
   | false => rw [footOf_some hg hff]; exact List.mem_append_left _ hm
 have hfresh : freshOk sg o id σ2.res = freshOk sg o id σ.res := by
  unfold freshOk
  have e : ∀ l : List Nat, (∀ i ∈ l, i < makes sg o.op) → (l.all fun i => match σ2.res[id + i]? with | some none => true | _ => false) = (l.all fun i => match σ.res[id + i]? with | some none => true | _ => false) := by
   intro l
   induction l with
   | nil => intro _; rfl
   | cons i l ih =>
    intro hl
    rw [List.all_cons, List.all_cons, ih fun j hj => hl j (by simp [hj]), hown (id + i) (List.mem_map.2 ⟨i, by simpa using hl i (by simp), rfl⟩)]
  exact e _ fun i hi => by simpa using hi
 unfold stepEff footOf
 rw [hguard, hfresh]
 cases hg : guardOf ops σ o with
 | none => exact ⟨rfl, rfl⟩
 | some G =>
  have he : eff P sg G id (fun x => strip G (σ2.opd x)) o.op = eff P sg G id (fun x => strip G (σ.opd x)) o.op := eff_congr fun x hx => by rw [hopd x hx]
  simp only
  rw [he]
  cases hff : isFf G with
  | true => simp
  | false =>
   have hreads : ∀ r ∈ (eff P sg G id (fun x => strip G (σ.opd x)) o.op).reads σ.res, σ.res.getD r none = σ2.res.getD r none := by
    intro r hm
    have := hr r (by rw [footOf_some hg hff]; exact List.mem_append_right _ hm)
    simp only [List.getD, this]
   obtain ⟨h1, h2⟩ := RM.run_congr (rs' := σ2.res) hreads
   rw [h1, h2]
   exact ⟨rfl, rfl⟩
theorem setAll_other : ∀ {wr : List (Nat × Res)} {l : List (Option Res)} {r : Nat}, r ∉ wr.map (·.1) → (setAll l wr)[r]? = l[r]?
 | [], _, _, _ => rfl
 | p :: wr, l, r, h => by
  simp only [List.map_cons, List.mem_cons, not_or] at h
  show (setAll (l.set p.1 (some p.2)) wr)[r]? = l[r]?
  rw [setAll_other h.2, List.getElem?_set, if_neg (fun e => h.1 e.symm)]
theorem setAll_set : ∀ {wr : List (Nat × Res)} {l : List (Option Res)} {r : Nat} {x : Option Res}, r ∉ wr.map (·.1) → setAll (l.set r x) wr = (setAll l wr).set r x
 | [], _, _, _, _ => rfl
 | p :: wr, l, r, x, h => by
  simp only [List.map_cons, List.mem_cons, not_or] at h
  show setAll ((l.set r x).set p.1 (some p.2)) wr = (setAll (l.set p.1 (some p.2)) wr).set r x
  rw [List.set_comm _ _ h.1, setAll_set h.2]
theorem setAll_comm : ∀ {wr wr' : List (Nat × Res)} {l : List (Option Res)}, (∀ r ∈ wr.map (·.1), r ∉ wr'.map (·.1)) → setAll (setAll l wr) wr' = setAll (setAll l wr') wr
 | [], _, _, _ => rfl
 | p :: wr, wr', l, h => by
  show setAll (setAll (l.set p.1 (some p.2)) wr) wr' = setAll ((setAll l wr').set p.1 (some p.2)) wr
  rw [setAll_comm (fun r hr => h r (by simp only [List.map_cons, List.mem_cons]; exact .inr hr)), setAll_set (h p.1 (by simp))]
theorem putSlot_other {l : List SV} {dst : Option Tmp} {v : SV} {t : Nat} (h : t ∉ dst.toList) : (putSlot l dst v).getD t .und = l.getD t .und := by
 cases dst with
 | none => rfl
 | some d =>
  simp only [Option.toList_some, List.mem_singleton] at h
  simp only [putSlot, List.getD, List.getElem?_set]
  rw [if_neg (fun e => h e.symm)]
theorem disj_spec {l m : List Nat} (h : disj l m = true) : ∀ x ∈ l, x ∉ m := by
 intro x hx
 have := List.all_eq_true.1 h x hx
 simpa using this
theorem runs_swap {wok : Nat → Bool} {ops : List Oper} {x y : It} {rest : List It} {σ' : St} {nd : List (X × Nd)} (h : Runs P sg wok ops (x :: y :: rest) σ σ' nd) (hi : indep x.f y.f = true) :
  ∃ nd', Runs P sg wok ops (y :: x :: rest) σ σ' nd' ∧ ∀ n, n ∈ nd' ↔ n ∈ nd := by
 obtain ⟨σ1, nd1, nd2, h1, f1, rfl, σ2, nd3, nd4, h2, f2, rfl, h3⟩ := h
 simp only [indep, Bool.and_eq_true] at hi
 obtain ⟨⟨⟨⟨⟨i1, i2⟩, i3⟩, i4⟩, i5⟩, i6⟩ := hi
 have i1 := disj_spec i1; have i2 := disj_spec i2; have i3 := disj_spec i3; have i4 := disj_spec i4; have i5 := disj_spec i5; have i6 := disj_spec i6
 rw [stepOp_eff] at h1 h2
 cases hx : stepEff P sg wok ops x.o x.id σ with
 | none => rw [hx] at h1; cases h1
 | some ex =>
  rw [hx] at h1
  simp only [Option.map_some, si0, Prod.mk.injEq] at h1
  obtain ⟨rfl, rfl⟩ := h1
  cases hy : stepEff P sg wok ops y.o y.id ⟨putSlot σ.slots x.o.dst ex.1, setAll σ.res ex.2.1⟩ with
  | none => rw [hy] at h2; cases h2
  | some ey =>
   rw [hy] at h2
   simp only [Option.map_some, si0, Prod.mk.injEq] at h2
   obtain ⟨rfl, rfl⟩ := h2
   obtain ⟨rx, sx⟩ := footOf_rw hx
   obtain ⟨ry, sy⟩ := footOf_rw hy
   rw [f1] at rx sx
   rw [f2] at ry sy
   have cy := step_congr (P := P) (sg := sg) (wok := wok) (ops := ops) (o := y.o) (id := y.id) (σ := ⟨putSlot σ.slots x.o.dst ex.1, setAll σ.res ex.2.1⟩) (σ2 := σ)
    (fun t ht => by rw [f2] at ht; exact (putSlot_other fun hm => i1 t (by rw [sx]; exact hm) ht).symm)
    (fun r hr => by rw [f2] at hr; exact (setAll_other fun hm => i4 r (by rw [rx]; exact hm) hr).symm)
   have cx := step_congr (P := P) (sg := sg) (wok := wok) (ops := ops) (o := x.o) (id := x.id) (σ := σ) (σ2 := ⟨putSlot σ.slots y.o.dst ey.1, setAll σ.res ey.2.1⟩)
    (fun t ht => by rw [f1] at ht; exact putSlot_other fun hm => i3 t (by rw [sy]; exact hm) ht)
    (fun r hr => by rw [f1] at hr; exact setAll_other fun hm => i6 r (by rw [ry]; exact hm) hr)
   rw [hy, f2] at cy
   rw [hx, f1] at cx
   refine ⟨ey.2.2 ++ (ex.2.2 ++ nd4), ⟨_, _, _, by rw [stepOp_eff, cy.1]; rfl, cy.2, rfl, _, _, _, by rw [stepOp_eff, cx.1]; rfl, cx.2, rfl, ?_⟩, fun n => by simp only [List.mem_append]; constructor <;> (intro h; rcases h with h | h | h) <;> simp [h]⟩
   have e1 : putSlot (putSlot σ.slots y.o.dst ey.1) x.o.dst ex.1 = putSlot (putSlot σ.slots x.o.dst ex.1) y.o.dst ey.1 := by
    cases hdx : x.o.dst with
    | none => rfl
    | some dx =>
     cases hdy : y.o.dst with
     | none => rfl
     | some dy =>
      have : dx ≠ dy := fun e => i2 dx (by rw [sx, hdx]; simp) (by rw [sy, hdy]; simp [e])
      exact List.set_comm _ _ (Ne.symm this)
   have e2 : setAll (setAll σ.res ey.2.1) ex.2.1 = setAll (setAll σ.res ex.2.1) ey.2.1 := (setAll_comm fun r hr hr' => i5 r (by rw [rx]; exact hr) (by rw [ry]; exact hr')).symm
   rw [e1, e2]
   exact h3
theorem runs_front {wok : Nat → Bool} {ops : List Oper} {x : It} {post : List It} {σ' : St} : ∀ {pre : List It} {σ : St} {nd : List (X × Nd)}, Runs P sg wok ops (pre ++ x :: post) σ σ' nd → (∀ p ∈ pre, indep p.f x.f = true) →
  ∃ nd', Runs P sg wok ops (x :: (pre ++ post)) σ σ' nd' ∧ ∀ n, n ∈ nd' ↔ n ∈ nd
 | [], σ, nd, h, _ => ⟨nd, h, fun _ => Iff.rfl⟩
 | p :: pre, σ, nd, h, hi => by
  obtain ⟨σ1, nd1, nd2, h1, f1, rfl, h2⟩ := h
  obtain ⟨nd', h3, hm⟩ := runs_front h2 (fun q hq => hi q (by simp [hq]))
  obtain ⟨nd'', h4, hm'⟩ := runs_swap (x := p) (y := x) ⟨σ1, nd1, nd', h1, f1, rfl, h3⟩ (hi p (by simp))
  exact ⟨nd'', h4, fun n => by rw [hm' n, List.mem_append, List.mem_append, hm n]⟩
theorem lex_ok {ops : Array Oper} {pre : FuncId → List D → Prop} (hM : ∀ f S, sg f = some S → MeetsAt P f S pre K.Φ) {Q : Exit → Act → World → Prop} {σ' : St} (hQ : ∀ gh a w, Inv K σ' gh a w → Q .normal a w) :
  ∀ (todo : List It) {σ : St} {gh : Gh} {a : Act} {w : World} {nd : List (X × Nd)}, Inv K σ gh a w → Runs P sg K.wok ops.toList todo σ σ' nd → NdOk K pre nd → (∀ it ∈ todo, ops[it.ix]? = some it.o) →
  wpOps P ops Q (todo.map (·.ix)) a w
 | [], σ, gh, a, w, nd, h, hr, hn, ho => by
  obtain ⟨rfl, _⟩ := hr
  exact hQ gh a w h
 | it :: todo, σ, gh, a, w, nd, h, hr, hn, ho => by
  obtain ⟨σ1, nd1, nd2, h1, f1, rfl, h2⟩ := hr
  simp only [List.map_cons, wpOps, ho it (by simp)]
  exact stepOp_ok h h1 hM (fun n hm => hn n (by simp [hm])) fun gh' a' w' h' => lex_ok hM hQ todo h' h2 (fun n hm => hn n (by simp [hm])) (fun q hq => ho q (by simp [hq]))
theorem mem_preds {o : Oper} {p : Nat} (h : p ∈ preds o) : ∃ e ∈ o.after.toList, Region.binds .any e = true ∧ e.on = p := by
 unfold preds at h
 obtain ⟨e, he, h⟩ := List.mem_filterMap.1 h
 split at h
 ·rename_i hb
  simp only [si0] at h
  exact ⟨e, he, hb, h⟩
 ·cases h
theorem reachB_sound {ops : List Oper} {L : Nat → Prop} (hC : ∀ k o, ops[k]? = some o → L k → ∀ p ∈ preds o, L p) {i : Nat} : ∀ (k : Nat) {S : List Nat}, reachB ops i k S = true → (∀ s ∈ S, L s) → L i
 | 0, S, h, hS => hS i (by simpa [reachB] using h)
 | k + 1, S, h, hS => by
  simp only [reachB, Bool.or_eq_true] at h
  rcases h with h | h
  ·exact hS i (by simpa using h)
  ·refine reachB_sound hC k h fun s hs => ?_
   split at hs
   ·rename_i hk
    split at hs
    ·rename_i o ho
     rcases List.mem_append.1 hs with hs | hs
     ·exact hC k o ho (hS k (by simpa using hk)) s hs
     ·exact hS s hs
    ·exact hS s hs
   ·exact hS s hs
theorem any_ok {ops : Array Oper} {pre : FuncId → List D → Prop} (hM : ∀ f S, sg f = some S → MeetsAt P f S pre K.Φ) {Q : Exit → Act → World → Prop} {σ' : St} (hQ : ∀ gh a w, Inv K σ' gh a w → Q .normal a w) :
  ∀ (fuel : Nat) {todo : List It} {listed : Array Bool} {σ : St} {gh : Gh} {a : Act} {w : World} {nd : List (X × Nd)}, todo.length = fuel → Inv K σ gh a w → Runs P sg K.wok ops.toList todo σ σ' nd → NdOk K pre nd → (∀ it ∈ todo, ops[it.ix]? = some it.o) →
  List.Pairwise (fun x y => x.ix < y.ix ∧ (waits y.o x.ix || indep x.f y.f || before ops.toList y.o x.ix) = true) todo → (∀ it ∈ todo, ∀ e ∈ it.o.after.toList, Region.binds .any e = true → e.on < it.ix) →
  (∀ i, listed.getD i true = false ↔ ∃ it ∈ todo, it.ix = i) → listed.size = ops.size → (∀ k o, ops.toList[k]? = some o → listed.getD k false = true → ∀ p ∈ preds o, listed.getD p false = true) → wpAny P .any ops Q fuel listed a w
 | fuel, todo, listed, σ, gh, a, w, nd, hl, h, hr, hn, ho, hp, hA, hL, hsz, hC => by
  have hready : ∀ i, i ∈ Region.ready .any ops listed ↔ (i < ops.size ∧ listed.getD i true = false ∧ ∃ o, ops[i]? = some o ∧ ∀ e ∈ o.after.toList, Region.binds .any e = true → listed.getD e.on false = true) := by
   intro i
   simp only [Region.ready, List.mem_filter, List.mem_range, Bool.and_eq_true, Bool.not_eq_true']
   refine and_congr_right fun hi => and_congr_right fun _ => ?_
   have : ops[i]? = some ops[i] := by simp [hi]
   rw [this]
   simp only [Option.map_some, Option.getD_some, si0, exists_eq_left']
   rw [Array.all_eq_true_iff_forall_mem]
   simp only [Bool.or_eq_true, Bool.not_eq_true', Array.mem_def]
   constructor
   ·intro hh e he hb; rcases hh e he with h1 | h1
    ·rw [h1] at hb; cases hb
    ·exact h1
   ·intro hh e he; cases hb : Region.binds .any e
    ·exact .inl rfl
    ·exact .inr (hh e he hb)
  have hbool : ∀ i, i < ops.size → listed.getD i false = listed.getD i true := by
   intro i hi
   rw [← hsz] at hi
   simp [Array.getD, hi]
  cases fuel with
  | zero =>
   have : todo = [] := List.length_eq_zero_iff.1 hl
   subst this
   obtain ⟨rfl, _⟩ := hr
   refine ⟨?_, hQ gh a w h⟩
   rw [List.eq_nil_iff_forall_not_mem]
   intro i hi
   obtain ⟨it, hit, _⟩ := (hL i).1 ((hready i).1 hi).2.1
   cases hit
  | succ fuel =>
   refine ⟨fun hnil => ?_, fun i hi => ?_⟩
   ·exfalso
    match todo, hl with
    | it :: rest, hl =>
    have hlt : it.ix < ops.size := (Array.getElem?_eq_some_iff.1 (ho it (by simp))).1
    have : it.ix ∈ Region.ready .any ops listed := (hready _).2 ⟨hlt, (hL _).2 ⟨it, by simp, rfl⟩, it.o, ho it (by simp), fun e he hb => by
     have h1 := hA it (by simp) e he hb
     rw [hbool _ (by omega)]
     cases hh : listed.getD e.on true with
     | true => rfl
     | false =>
      obtain ⟨it', hm, e'⟩ := (hL _).1 hh
      cases hm with
      | head => omega
      | tail _ hm =>
       have := (List.pairwise_cons.1 hp).1 it' hm
       omega⟩
    rw [hnil] at this
    cases this
   ·obtain ⟨hlt, hun, o, hoi, hedge⟩ := (hready i).1 hi
    obtain ⟨it, hm, rfl⟩ := (hL i).1 hun
    obtain ⟨pre', post, rfl⟩ := List.append_of_mem hm
    have hio := ho it hm
    rw [hoi] at hio
    simp only [si0] at hio
    subst hio
    have hpw := List.pairwise_append.1 hp
    have hind : ∀ p ∈ pre', indep p.f it.f = true := by
     intro p hp'
     obtain ⟨hlt', hw⟩ := hpw.2.2 p hp' it (by simp)
     simp only [Bool.or_eq_true] at hw
     rcases hw with (hw | hw) | hw
     ·exfalso
      unfold waits at hw
      rw [List.any_eq_true] at hw
      obtain ⟨e, he, hb⟩ := hw
      simp only [Bool.and_eq_true, beq_iff_eq] at hb
      have h1 := hedge e he hb.1
      rw [hb.2, hbool _ (by omega)] at h1
      have h2 := (hL p.ix).2 ⟨p, by simp [hp'], rfl⟩
      rw [h1] at h2
      cases h2
     ·exact hw
     ·exfalso
      have h1 : listed.getD p.ix false = true := reachB_sound (L := fun k => listed.getD k false = true) hC _ hw fun s hs => by
       obtain ⟨e, he, hb, rfl⟩ := mem_preds hs
       exact hedge e he hb
      rw [hbool _ (by omega)] at h1
      have h2 := (hL p.ix).2 ⟨p, by simp [hp'], rfl⟩
      rw [h1] at h2
      cases h2
    obtain ⟨nd', hr', hmem⟩ := runs_front hr hind
    obtain ⟨σ1, nd1, nd2, h1, f1, rfl, h2⟩ := hr'
    have hn' : NdOk K pre (nd1 ++ nd2) := fun n hm => hn n ((hmem n).1 hm)
    have hlen : (pre' ++ post).length = fuel := by simp at hl ⊢; omega
    have hsub : List.Sublist (pre' ++ post) (pre' ++ it :: post) := List.Sublist.append (List.Sublist.refl _) (List.sublist_cons_self _ _)
    have hne : ∀ q ∈ pre' ++ post, q.ix ≠ it.ix := by
     intro q hq
     rcases List.mem_append.1 hq with hq | hq
     ·have := (hpw.2.2 q hq it (by simp)).1; omega
     ·have := ((List.pairwise_cons.1 hpw.2.1).1 q hq).1; omega
    have hL' : ∀ j, (listed.setIfInBounds it.ix true).getD j true = false ↔ ∃ q ∈ pre' ++ post, q.ix = j := by
     intro j
     by_cases e : it.ix = j
     ·subst e
      have : (listed.setIfInBounds it.ix true).getD it.ix true = true := by
       simp [Array.getD, hsz, hlt]
      rw [this]
      constructor
      ·intro hh; cases hh
      ·rintro ⟨q, hq, hq'⟩; exact absurd hq' (hne q hq)
     ·have : (listed.setIfInBounds it.ix true).getD j true = listed.getD j true := by
       simp only [Array.getD_eq_getD_getElem?, Array.getElem?_setIfInBounds, if_neg e]
      rw [this, hL j]
      constructor
      ·rintro ⟨q, hq, rfl⟩
       rcases List.mem_append.1 hq with hq | hq
       ·exact ⟨q, by simp [hq], rfl⟩
       ·cases hq with
        | head => exact absurd rfl e
        | tail _ hq => exact ⟨q, List.mem_append_right _ hq, rfl⟩
      ·rintro ⟨q, hq, rfl⟩; exact ⟨q, hsub.mem hq, rfl⟩
    have hup : ∀ j, listed.getD j false = true → (listed.setIfInBounds it.ix true).getD j false = true := by
     intro j hj
     by_cases e : it.ix = j
     ·subst e; simp [Array.getD, hsz, hlt]
     ·simp only [Array.getD_eq_getD_getElem?, Array.getElem?_setIfInBounds, if_neg e] at hj ⊢; exact hj
    have hC' : ∀ k o, ops.toList[k]? = some o → (listed.setIfInBounds it.ix true).getD k false = true → ∀ p ∈ preds o, (listed.setIfInBounds it.ix true).getD p false = true := by
     intro k o hk hkl p hp9
     by_cases e : it.ix = k
     ·subst e
      have ho9 : o = it.o := by
       have h9 := ho it hm
       rw [Array.getElem?_toList] at hk
       rw [hk] at h9
       exact Option.some.inj h9
      subst ho9
      obtain ⟨e, he, hb, rfl⟩ := mem_preds hp9
      exact hup _ (hedge e he hb)
     ·refine hup _ (hC k o hk ?_ p hp9)
      simp only [Array.getD_eq_getD_getElem?, Array.getElem?_setIfInBounds, if_neg e] at hkl ⊢; exact hkl
    have := stepOp_ok (Q := Q) (Kn := wpAny P .any ops Q fuel (listed.setIfInBounds it.ix true)) h h1 hM (fun n hm => hn' n (by simp [hm])) fun gh' a' w' h' =>
     any_ok hM hQ fuel hlen h' h2 (fun n hm => hn' n (by simp [hm])) (fun q hq => ho q (hsub.mem hq)) (hp.sublist hsub) (fun q hq => hA q (hsub.mem hq)) hL' (by simpa using hsz) hC'
    unfold wpOp
    rw [hoi]
    exact this
def its : Nat → List (Oper × Nat) → List Foot → List It
 | i, (o, id) :: r, f :: fs => ⟨i, o, id, f⟩ :: its (i + 1) r fs
 | _, _, _ => []
theorem runOps_runs {wok : Nat → Bool} {ops : List Oper} : ∀ {l : List (Oper × Nat)} {i : Nat} {σ σ' : St} {nd : List (X × Nd)} {fs : List Foot}, runOps P sg wok ops l σ = some (σ', nd, fs) → Runs P sg wok ops (its i l fs) σ σ' nd ∧ fs.length = l.length
 | [], i, σ, σ', nd, fs, h => by
  simp only [runOps, si0, Prod.mk.injEq] at h
  obtain ⟨rfl, rfl, rfl⟩ := h
  exact ⟨⟨rfl, rfl⟩, rfl⟩
 | (o, id) :: l, i, σ, σ', nd, fs, h => by
  unfold runOps at h
  split at h
  ·cases h
  ·rename_i σ1 nd1 h1
   split at h
   ·cases h
   ·rename_i σ2 nd2 fs2 h2
    simp only [si0, Prod.mk.injEq] at h
    obtain ⟨rfl, rfl, rfl⟩ := h
    obtain ⟨r1, r2⟩ := runOps_runs (i := i + 1) h2
    exact ⟨⟨σ1, nd1, nd2, h1, rfl, rfl, r1⟩, by simp [r2]⟩
theorem number_fst : ∀ (l : List Oper) (k : Nat), (number sg k l).map (·.1) = l
 | [], _ => rfl
 | o :: l, k => by simp [number, number_fst l]
theorem its_spec : ∀ {l : List (Oper × Nat)} {fs : List Foot} {i : Nat}, fs.length = l.length → (its i l fs).map (·.ix) = List.range' i l.length ∧ (its i l fs).map (fun it => (it.o, it.f)) = (l.map (·.1)).zip fs ∧ ∀ it ∈ its i l fs, i ≤ it.ix ∧ (l.map (·.1))[it.ix - i]? = some it.o
 | [], fs, i, h => by
  cases fs with
  | nil => simp [its]
  | cons => simp at h
 | (o, id) :: l, fs, i, h => by
  cases fs with
  | nil => simp at h
  | cons f fs =>
   obtain ⟨h1, h2, h3⟩ := its_spec (l := l) (fs := fs) (i := i + 1) (by simpa using h)
   refine ⟨by simp [its, h1, List.range'_succ], by simp [its, h2], fun it hm => ?_⟩
   cases hm with
   | head => simp
   | tail _ hm =>
    obtain ⟨h4, h5⟩ := h3 it hm
    refine ⟨by omega, ?_⟩
    have : it.ix - i = (it.ix - (i + 1)) + 1 := by omega
    rw [this]
    simpa using h5
theorem allFree_spec {ops : List Oper} : ∀ {l : List It} {i : Nat}, l.map (·.ix) = List.range' i l.length → allFree ops i (l.map fun it => (it.o, it.f)) = true →
  List.Pairwise (fun x y => x.ix < y.ix ∧ (waits y.o x.ix || indep x.f y.f || before ops y.o x.ix) = true) l ∧ ∀ it ∈ l, ∀ e ∈ it.o.after.toList, Region.binds .any e = true → e.on < it.ix
 | [], i, _, _ => ⟨List.Pairwise.nil, by simp⟩
 | it :: l, i, hi, h => by
  simp only [List.map_cons, List.length_cons, List.range'_succ, List.cons.injEq] at hi
  obtain ⟨hi1, hi2⟩ := hi
  simp only [List.map_cons, allFree, Bool.and_eq_true] at h
  obtain ⟨⟨h1, h2⟩, h3⟩ := h
  obtain ⟨p1, p2⟩ := allFree_spec hi2 h3
  have hfree : ∀ (m : List It), freeOf ops i it.f (m.map fun it => (it.o, it.f)) = true → ∀ y ∈ m, (waits y.o i || indep it.f y.f || before ops y.o i) = true := by
   intro m
   induction m with
   | nil => intro _ y hy; cases hy
   | cons z m ih =>
    intro hf y hy
    simp only [List.map_cons, freeOf, Bool.and_eq_true] at hf
    cases hy with
    | head => exact hf.1
    | tail _ hy => exact ih hf.2 y hy
  refine ⟨List.pairwise_cons.2 ⟨fun y hy => ⟨?_, by rw [hi1]; exact hfree l h2 y hy⟩, p1⟩, fun q hq e he hb => ?_⟩
  ·have : y.ix ∈ l.map (·.ix) := List.mem_map.2 ⟨y, hy, rfl⟩
   rw [hi2, List.mem_range'_1] at this
   omega
  ·cases hq with
   | head =>
    have := List.all_eq_true.1 h1 e he
    rw [hb] at this
    simp only [Bool.not_true, Bool.false_or] at this
    have := Nat.le_of_ble_eq_true this
    omega
   | tail _ hq => exact p2 q hq e he hb
theorem region_ok0 (h : Inv K σ gh a w) {ops : Array Oper} {draw : Bool} {rid : Nat} {σ' : St} {nd : List (X × Nd)} (hreg : regionEx0 P sg K.wok ops draw σ = some (σ', nd)) (hm : P.follows .mixedOrders = true) {pre : FuncId → List D → Prop}
  (hM : ∀ f S, sg f = some S → MeetsAt P f S pre K.Φ) (hn : NdOk K pre nd) {Q : Exit → Act → World → Prop} (hQ : ∀ gh a w, Inv K σ' gh a w → Q .normal a w) : (Code.region rid ops draw).wp P Q a w := by
 unfold regionEx0 at hreg
 simp only at hreg
 split at hreg
 ·cases hreg
 ·rename_i σ2 nd2 fs hrun
  split at hreg
  ·rename_i hc
   simp only [si0, Prod.mk.injEq] at hreg
   obtain ⟨rfl, rfl⟩ := hreg
   have h0 := h.addRes (countMakes sg ops.toList)
   obtain ⟨hruns, hfl⟩ := runOps_runs (i := 0) hrun
   obtain ⟨s1, s2, s3⟩ := its_spec (i := 0) hfl
   rw [number_fst] at s2 s3
   have hnl : (number sg σ.res.length ops.toList).length = ops.size := by
    have := congrArg List.length (number_fst (sg := sg) ops.toList σ.res.length)
    simpa using this
   have hops : ∀ it ∈ its 0 (number sg σ.res.length ops.toList) fs, ops[it.ix]? = some it.o := by
    intro it hit
    have := (s3 it hit).2
    simpa using this
   have hix : (its 0 (number sg σ.res.length ops.toList) fs).map (·.ix) = List.range ops.size := by
    rw [s1, hnl, List.range_eq_range']
   cases draw with
   | false =>
    refine wp_region ?_
    rw [← hix]
    exact lex_ok hM hQ _ h0 hruns hn hops
   | true =>
    simp only [Bool.not_true, Bool.false_or, Bool.and_eq_true] at hc
    have hlen : (its 0 (number sg σ.res.length ops.toList) fs).length = ops.size := by
     have := congrArg List.length hix
     simpa using this
    obtain ⟨p1, p2⟩ := allFree_spec (ops := ops.toList) (i := 0) (l := its 0 (number sg σ.res.length ops.toList) fs) (by rw [hix, hlen, List.range_eq_range']) (by rw [s2]; exact hc.2)
    refine wp_region_any hm ?_
    have hI : Inv K ⟨σ.slots, σ.res ++ List.replicate (countMakes sg ops.toList) none⟩ gh a { w with drawn := w.drawn + 1 } := by
     refine ⟨h0.defers, h0.size, fun n s hs => SV.rel_mono (w := w) (w' := { w with drawn := w.drawn + 1 }) (Gh.le.refl gh) (fun _ _ => rfl) (h0.slot n s hs), h0.kept, h0.os, h0.tape, h0.output, h0.grow, h0.pr, h0.prlt, h0.Flt, h0.beta, h0.vr0,
      fun r x hx hon => (h0.res r x hx hon).keep (w' := { w with drawn := w.drawn + 1 }) (Gh.le.refl gh) rfl rfl rfl (fun _ _ => rfl) (fun _ _ => rfl), h0.own, h0.inj, h0.le0, h0.Fpr, h0.tab⟩
    refine any_ok hM hQ ops.size hlen hI hruns hn hops p1 p2 (fun i => ?_) (by simp) (fun k o _ hkl => by
     exfalso
     by_cases hk : k < ops.size <;> simp [Array.getD, hk] at hkl)
    have : (Array.replicate ops.size false).getD i true = false ↔ i < ops.size := by
     by_cases hi : i < ops.size <;> simp [Array.getD, hi]
    rw [this]
    have hmem : i ∈ (its 0 (number sg σ.res.length ops.toList) fs).map (·.ix) ↔ i < ops.size := by rw [hix, List.mem_range]
    rw [← hmem, List.mem_map]
  ·cases hreg
theorem frzRow_ok (h : Inv K σ gh a w) (r : Nat) : ∃ gh', Inv K ⟨σ.slots, frzRow σ.res r⟩ gh' a w := by
 unfold frzRow
 split
 ·rename_i g e cts c v hr
  split
  ·rename_i hg
   obtain ⟨gh', h', _⟩ := freeze_one h (p := (r, ⟨g, .row e cts c v true⟩)) ⟨_, getD_has hr, isTt_sound hg, .inr ⟨_, _, _, _, rfl, rfl⟩⟩
   exact ⟨gh', h'⟩
  ·exact ⟨gh, h⟩
 ·exact ⟨gh, h⟩
theorem frzRows_ok : ∀ {rs : List Nat} {σ : St} {gh : Gh}, Inv K σ gh a w → ∃ gh', Inv K (frzRows rs σ) gh' a w
 | [], σ, gh, h => ⟨gh, h⟩
 | r :: rs, σ, gh, h => by
  obtain ⟨gh', h'⟩ := frzRow_ok h r
  exact frzRows_ok (rs := rs) h'
theorem region_ok (h : Inv K σ gh a w) {ops : Array Oper} {draw : Bool} {rid : Nat} {σ' : St} {nd : List (X × Nd)} (hreg : regionEx P sg K.wok ops draw σ = some (σ', nd)) (hm : P.follows .mixedOrders = true) {pre : FuncId → List D → Prop}
  (hM : ∀ f S, sg f = some S → MeetsAt P f S pre K.Φ) (hn : NdOk K pre nd) {Q : Exit → Act → World → Prop} (hQ : ∀ gh a w, Inv K σ' gh a w → Q .normal a w) : (Code.region rid ops draw).wp P Q a w := by
 obtain ⟨gh', h'⟩ := frzRows_ok (rs := intoRows P ops.toList σ ++ twice P sg K.wok ops.toList (frzRows (intoRows P ops.toList σ) σ)) h
 exact region_ok0 h' hreg hm hM hn hQ
theorem swapRes_inv {r q v v' i : Nat} {l : List (Option Res)} {y : Res} (h : (l.map (swapRes r q v v'))[i]? = some (some y)) : ∃ x, l[i]? = some (some x) ∧ x.g = y.g ∧ (∀ gh : Gh, y.k.live gh i = x.k.live gh i) ∧ ((∃ e cs z, x.k = .box e cs z ∧ y.k = .box e (cs.map (swapSC r q v v')) z) ∨ ((∃ e c x' u z, x.k = .row e c x' u z) ∧ y = x)) := by
 simp only [List.getElem?_map, Option.map_eq_some_iff] at h
 obtain ⟨x0, h1, h2⟩ := h
 unfold swapRes at h2
 split at h2
 ·rename_i g e cs z
  simp only [si0] at h2
  subst h2
  exact ⟨_, h1, rfl, fun gh => by cases z <;> rfl, .inl ⟨_, _, _, rfl, rfl⟩⟩
 ·rename_i hnb
  subst h2
  refine ⟨y, h1, rfl, fun _ => rfl, .inr ⟨?_, rfl⟩⟩
  obtain ⟨g, k⟩ := y
  cases k with
  | box e cs z => exact absurd rfl (hnb g e cs z)
  | row e c x' u z => exact ⟨_, _, _, _, _, rfl⟩
theorem swapRes_has {r q v v' i : Nat} {l : List (Option Res)} {x : Res} (h : l[i]? = some (some x)) : ∃ y, (l.map (swapRes r q v v'))[i]? = some (some y) ∧ y.g = x.g := by
 obtain ⟨g, k⟩ := x
 cases k with
 | box e cs z => exact ⟨⟨g, .box e (cs.map (swapSC r q v v')) z⟩, by rw [List.getElem?_map, h]; rfl, rfl⟩
 | row e c x' u z => exact ⟨_, by rw [List.getElem?_map, h]; rfl, rfl⟩
theorem rowSwap_ok (h : Inv K σ gh a w) (p : Nat × Nat) : ∃ gh', Inv K (rowSwap σ p) gh' a w := by
 obtain ⟨r, q⟩ := p
 unfold rowSwap
 split
 ·rename_i g e c x v z g' e' c' x' v' z' hr hq
  simp only at hr hq
  split
  ·rename_i hc
   simp only [Bool.and_eq_true, Bool.not_eq_true', beq_eq_false_iff_ne, ne_eq] at hc
   obtain ⟨⟨hg, hg'⟩, hne⟩ := hc
   have hr := getD_has hr
   have hq := getD_has hq
   have hon := isTt_sound (Φ := K.Φ) (ρ := K.ρ) hg
   have hon' := isTt_sound (Φ := K.Φ) (ρ := K.ρ) hg'
   obtain ⟨a1, a2, a3, a4⟩ := h.res r _ hr hon
   obtain ⟨b1, b2, b3, b4⟩ := h.res q _ hq hon'
   have hlr : r < σ.res.length := (List.getElem?_eq_some_iff.1 hr).1
   have hlq : q < σ.res.length := (List.getElem?_eq_some_iff.1 hq).1
   let gh' : Gh := { gh with rv := fun i => if i = r then gh.rv q else if i = q then gh.rv r else gh.rv i, vr := fun i => if i = r then v + 1 else if i = q then v' + 1 else gh.vr i }
   have rr : gh'.rv r = gh.rv q := by simp [gh']
   have rq : gh'.rv q = gh.rv r := by simp [gh', Ne.symm hne]
   have vr : gh'.vr r = v + 1 := by simp [gh']
   have vq : gh'.vr q = v' + 1 := by simp [gh', Ne.symm hne]
   have ro : ∀ i, i ≠ r → i ≠ q → gh'.rv i = gh.rv i ∧ gh'.vr i = gh.vr i := fun i h1 h2 => by simp [gh', h1, h2]
   have hle : gh.le gh' := ⟨fun _ _ h => h, fun i => by
     by_cases h1 : i = r
     ·subst h1; rw [vr]; omega
     ·by_cases h2 : i = q
      ·subst h2; rw [vq]; omega
      ·rw [(ro i h1 h2).2]; exact Nat.le_refl _,
    fun i h1 h2 => by
     by_cases h3 : i = r
     ·subst h3; rw [vr] at h2; omega
     ·by_cases h4 : i = q
      ·subst h4; rw [vq] at h2; omega
      ·exact (ro i h3 h4).1, fun _ h => h⟩
   have gr : ((σ.res.set r (some ⟨g', .row e' c' x' (v + 1) z'⟩)).set q (some ⟨g, .row e c x (v' + 1) z⟩))[r]? = some (some ⟨g', .row e' c' x' (v + 1) z'⟩) := by
    rw [List.getElem?_set, if_neg (Ne.symm hne), getElem?_set_has hlr]
   have gq : ((σ.res.set r (some ⟨g', .row e' c' x' (v + 1) z'⟩)).set q (some ⟨g, .row e c x (v' + 1) z⟩))[q]? = some (some ⟨g, .row e c x (v' + 1) z⟩) := by
    rw [getElem?_set_has (by simpa using hlq)]
   have h1 : Inv K ⟨σ.slots, (σ.res.set r (some ⟨g', .row e' c' x' (v + 1) z'⟩)).set q (some ⟨g, .row e c x (v' + 1) z⟩)⟩ gh' a w := by
    refine h.step (T := fun i => i = r ∨ i = q) ⟨hle, rfl, rfl, rfl, Nat.le_refl _, fun i hi => ?_, fun _ _ _ => rfl, h.Flt, fun b hb => .inl hb, fun i y hT hy hony => ?_, fun i y b hT hy hony hl => ?_, fun i y i' y' b hT hT' hy _ hy' _ hl hl' => ?_, fun i b hT hb => ?_, fun i hT _ => ?_⟩
    ·simp only [not_or] at hi
     exact ⟨by rw [List.getElem?_set, if_neg (Ne.symm hi.2), List.getElem?_set, if_neg (Ne.symm hi.1)], rfl, ro i hi.1 hi.2⟩
    ·rcases hT with rfl | rfl
     ·rw [gr] at hy
      simp only [si0] at hy
      subst hy
      refine ⟨vr, by omega, by rw [rr]; exact b3, ?_⟩
      rw [rr]
      exact b4
     ·rw [gq] at hy
      simp only [si0] at hy
      subst hy
      refine ⟨vq, by omega, by rw [rq]; exact a3, ?_⟩
      rw [rq]
      exact a4
    ·have key : ∃ (i0 : Nat) (y0 : Res), (i0 = r ∨ i0 = q) ∧ σ.has i0 y0 ∧ y0.on K ∧ y0.k.live gh i0 = some b := by
      rcases hT with rfl | rfl
      ·rw [gr] at hy
       simp only [si0] at hy
       subst hy
       refine ⟨q, _, .inr rfl, hq, hon', ?_⟩
       rw [← hl]
       cases z' <;> simp [RK.live, rr]
      ·rw [gq] at hy
       simp only [si0] at hy
       subst hy
       refine ⟨r, _, .inl rfl, hr, hon, ?_⟩
       rw [← hl]
       cases z <;> simp [RK.live, rq]
     obtain ⟨i0, y0, k1, k2, k3, k4⟩ := key
     obtain ⟨o1, o2, o3⟩ := h.own i0 y0 b k2 k3 k4
     refine ⟨o1, o2, o3, fun r2 x2 hT2 hx2 hon2 hl2 => hT2 ?_⟩
     rw [h.inj r2 x2 i0 y0 b hx2 hon2 k2 k3 hl2 k4]
     exact k1
    ·have hx : ∀ i y, (i = r ∨ i = q) → ((σ.res.set r (some ⟨g', .row e' c' x' (v + 1) z'⟩)).set q (some ⟨g, .row e c x (v' + 1) z⟩))[i]? = some (some y) → y.k.live gh' i = some b → (i = r → (Res.mk g' (.row e' c' x' v' z')).k.live gh q = some b) ∧ (i = q → (Res.mk g (.row e c x v z)).k.live gh r = some b) := by
      intro i y hT hy hl
      refine ⟨fun e1 => ?_, fun e1 => ?_⟩
      ·subst e1
       rw [gr] at hy
       simp only [si0] at hy
       subst hy
       rw [← hl]
       cases z' <;> simp [RK.live, rr]
      ·subst e1
       rw [gq] at hy
       simp only [si0] at hy
       subst hy
       rw [← hl]
       cases z <;> simp [RK.live, rq]
     obtain ⟨p1, p2⟩ := hx i y hT hy hl
     obtain ⟨p3, p4⟩ := hx i' y' hT' hy' hl'
     rcases hT with e1 | e1 <;> rcases hT' with e2 | e2
     ·rw [e1, e2]
     ·exact absurd (h.inj q _ r _ b hq hon' hr hon (p1 e1) (p4 e2)) (Ne.symm hne)
     ·exact absurd (h.inj r _ q _ b hr hon hq hon' (p2 e1) (p3 e2)) hne
     ·rw [e1, e2]
    ·rcases hT with rfl | rfl
     ·exact ⟨_, gr, hon'⟩
     ·exact ⟨_, gq, hon⟩
    ·rcases hT with rfl | rfl
     ·exact ⟨_, gr, hon'⟩
     ·exact ⟨_, gq, hon⟩
   have cell : ∀ (s : SC) (u : Value), SC.rel K.Φ K.ρ w gh s u → SC.rel K.Φ K.ρ w gh' (swapSC r q v v' s) u := fun s u hsu => by
    unfold swapSC
    split
    ·rename_i p u'
     split
     ·rename_i hpu
      simp only [Bool.and_eq_true, beq_iff_eq] at hpu
      obtain ⟨rfl, rfl⟩ := hpu
      obtain ⟨k1, _, _, k4⟩ := hsu
      exact ⟨k1, by omega, by rw [vr]; exact Nat.le_refl _, fun _ => by rw [rr]; exact k4 b1⟩
     ·exact SC.rel_mono hle (fun _ _ => rfl) hsu
    ·exact SC.rel_mono hle (fun _ _ => rfl) hsu
   have cells : ∀ (cs : List SC) (us : List Value), relS K.Φ K.ρ w gh cs us → relS K.Φ K.ρ w gh' (cs.map (swapSC r q v v')) us := by
    intro cs
    induction cs with
    | nil => intro us h; cases us with | nil => trivial | cons _ _ => exact h.elim
    | cons c cs ih => intro us h; cases us with | nil => exact h.elim | cons u us => exact ⟨cell c u h.1, ih us h.2⟩
   refine ⟨gh', h1.defers, by simp [h1.size], fun n s hs => ?_, h1.kept, h1.os, h1.tape, h1.output, h1.grow, h1.pr, h1.prlt, h1.Flt, fun i b hb => ?_, fun i hi => ?_, fun i y hy hon2 => ?_, fun i y b hy hon2 hl => ?_, fun i y i' y' b hy hon2 hy' hon2' hl hl' => ?_, h1.le0, h1.Fpr, h1.tab⟩
   ·simp only [List.getElem?_map, Option.map_eq_some_iff] at hs
    obtain ⟨s0, hs0, rfl⟩ := hs
    have hrel := h1.slot n s0 hs0
    unfold swapSlot
    split
    ·exact cell _ _ (h.slot n _ hs0)
    ·exact hrel
   ·obtain ⟨x, hx, hxo⟩ := h1.beta i b hb
    obtain ⟨y, hy, hyg⟩ := swapRes_has (r := r) (q := q) (v := v) (v' := v') hx
    exact ⟨y, hy, by unfold Res.on at hxo ⊢; rw [hyg]; exact hxo⟩
   ·obtain ⟨x, hx, hxo⟩ := h1.vr0 i hi
    obtain ⟨y, hy, hyg⟩ := swapRes_has (r := r) (q := q) (v := v) (v' := v') hx
    exact ⟨y, hy, by unfold Res.on at hxo ⊢; rw [hyg]; exact hxo⟩
   ·obtain ⟨x, hx, hxg, _, hk⟩ := swapRes_inv hy
    have hxo : x.on K := by unfold Res.on at hon2 ⊢; rw [hxg]; exact hon2
    rcases hk with ⟨e0, cs, z0, k1, k2⟩ | ⟨_, rfl⟩
    ·have hir : i ≠ r := by rintro rfl; rw [gr] at hx; simp only [si0] at hx; subst hx; cases k1
     have hiq : i ≠ q := by rintro rfl; rw [gq] at hx; simp only [si0] at hx; subst hx; cases k1
     have hx0 : σ.has i x := by
      unfold St.has
      rw [List.getElem?_set, if_neg (Ne.symm hiq), List.getElem?_set, if_neg (Ne.symm hir)] at hx
      exact hx
     have hok := h.res i x hx0 hxo
     rw [k1] at hok
     rw [k2]
     obtain ⟨b, cur, o1, o2, o3, o4⟩ := hok
     exact ⟨b, cur, o1, o2, cells _ _ o3, o4⟩
    ·exact h1.res i y hx hxo
   ·obtain ⟨x, hx, hxg, hlv, _⟩ := swapRes_inv hy
    have hxo : x.on K := by unfold Res.on at hon2 ⊢; rw [hxg]; exact hon2
    exact h1.own i x b hx hxo (by rw [← hlv]; exact hl)
   ·obtain ⟨x, hx, hxg, hlv, _⟩ := swapRes_inv hy
    have hxo : x.on K := by unfold Res.on at hon2 ⊢; rw [hxg]; exact hon2
    obtain ⟨x', hx', hxg', hlv', _⟩ := swapRes_inv hy'
    have hxo' : x'.on K := by unfold Res.on at hon2' ⊢; rw [hxg']; exact hon2'
    exact h1.inj i x i' x' b hx hxo hx' hxo' (by rw [← hlv]; exact hl) (by rw [← hlv']; exact hl')
  ·exact ⟨gh, h⟩
 ·exact ⟨gh, h⟩
theorem Inv.reslot (h : Inv K σ gh a w) (n : Nat) {s : SV} (hs : SV.rel K.Φ K.ρ w gh s (a.tmps.getD n undef)) : Inv K ⟨σ.slots.set n s, σ.res⟩ gh a w := by
 refine ⟨h.defers, by simp [h.size], fun m s' hm => ?_, h.kept, h.os, h.tape, h.output, h.grow, h.pr, h.prlt, h.Flt, h.beta, h.vr0, h.res, h.own, h.inj, h.le0, h.Fpr, h.tab⟩
 by_cases he : n = m
 ·subst he
  have hm : (σ.slots.set n s)[n]? = some s' := hm
  have hlt : n < σ.slots.length := by
   have := (List.getElem?_eq_some_iff.1 hm).1
   simpa using this
  rw [List.getElem?_set_self hlt] at hm
  simp only [si0] at hm
  rw [← hm]; exact hs
 ·have hm : (σ.slots.set n s)[m]? = some s' := hm
  rw [List.getElem?_set_ne he] at hm
  exact h.slot m s' hm
theorem frzSlot_ok (hd : St) (h : Inv K σ gh a w) (n : Nat) : ∃ gh', Inv K (frzSlot hd σ n) gh' a w := by
 unfold frzSlot
 split
 ·rename_i e cts i r ver hh hs
  split
  ·rename_i g e' cts' c ver' hr
   split
   ·rename_i hc
    simp only [Bool.and_eq_true, beq_iff_eq] at hc
    obtain ⟨⟨⟨hg, hv⟩, he⟩, hcts⟩ := hc
    have hcts := CT.beqs_eq _ _ hcts
    subst hv he hcts
    obtain ⟨gh', h'⟩ := frzRow_ok h r
    have hs' : σ.slots[n]? = some (.c (.row r ver)) := by
     cases hq : σ.slots[n]? with
     | none => simp [List.getD, hq] at hs
     | some s => simp only [List.getD, hq, Option.getD_some] at hs; rw [hs]
    have hrel : SC.rel K.Φ K.ρ w gh' (.row r ver) (a.tmps.getD n undef) := h'.slot n _ hs'
    have hon := isTt_sound (Φ := K.Φ) (ρ := K.ρ) hg
    obtain ⟨r1, _, _, r4⟩ := h'.res r _ (getD_has hr) hon
    refine ⟨gh', h'.reslot n ?_⟩
    show Rep w gh'.F (.sl e cts) (a.tmps.getD n undef) (c.d K.Φ K.ρ)
    rw [hrel.2.2.2 r1]
    exact r4
   ·exact ⟨gh, h⟩
  ·exact ⟨gh, h⟩
 ·exact ⟨gh, h⟩
theorem frzSlots_ok (hd : St) (h : Inv K σ gh a w) : ∃ gh', Inv K (frzSlots hd σ) gh' a w := by
 unfold frzSlots
 generalize List.range hd.slots.length = l
 induction l generalizing σ gh with
 | nil => exact ⟨gh, h⟩
 | cons p l ih =>
  obtain ⟨gh', h'⟩ := frzSlot_ok hd h p
  exact ih h'
theorem swapRows_ok (hd : St) (h : Inv K σ gh a w) : ∃ gh', Inv K ((swapsOf hd σ).foldl rowSwap σ) gh' a w := by
 generalize swapsOf hd σ = l
 induction l generalizing σ gh with
 | nil => exact ⟨gh, h⟩
 | cons p l ih =>
  obtain ⟨gh', h'⟩ := rowSwap_ok h p
  exact ih h'
theorem alignRows_ok (hd : St) (h : Inv K σ gh a w) : ∃ gh', Inv K (alignRows hd σ) gh' a w := by
 obtain ⟨gh', h'⟩ := swapRows_ok hd h
 exact frzSlots_ok hd h'
end
end Go.RV
namespace Go.RV
open Go.RowKit
section
variable {Φ : FuncId → List D → List D} {ρ : List D} {n k : Nat} {c : X} {w : World} {gh : Gh}
theorem SC.repl_rel (hn : n = ρ.length) {s : SC} {v : Value} (hb : s.under n = true) : SC.rel Φ (ρ ++ takeD k (c.outs Φ ρ)) w gh (s.repl c n k) v ↔ SC.rel Φ ρ w gh s v := by
 cases s with
 | x ct e => simp only [SC.repl, SC.rel, (X.repl_d hn e hb).1]
 | ea t cts s i off =>
  simp only [SC.under, Bool.and_eq_true] at hb
  simp only [SC.repl, SC.rel, (X.repl_d hn s hb.1).1, (X.repl_d hn i hb.2).1]
 | pa cts p off => simp only [SC.repl, SC.rel, (X.repl_d hn p hb).1]
 | ra r ver m i off => simp only [SC.repl, SC.rel, (X.repl_d hn i hb).1]
 | da r b m i => simp only [SC.repl, SC.rel, (X.repl_d hn i hb).1]
 | dr r b m q i => simp only [SC.repl, SC.rel, (X.repl_d hn i hb).1]
 | pdr cts p b m q i =>
  simp only [SC.under, Bool.and_eq_true] at hb
  simp only [SC.repl, SC.rel, (X.repl_d hn p hb.1).1, (X.repl_d hn i hb.2).1]
 | ptr r off => exact Iff.rfl
 | row r ver => exact Iff.rfl
 | fn f caps => exact Iff.rfl
 | cst c => exact Iff.rfl
 | any => exact Iff.rfl
theorem relS_repl (hn : n = ρ.length) : ∀ {cs : List SC} {vs : List Value}, cs.all (SC.under n) = true → (relS Φ (ρ ++ takeD k (c.outs Φ ρ)) w gh (cs.map (SC.repl c n k)) vs ↔ relS Φ ρ w gh cs vs)
 | [], [], _ => Iff.rfl
 | [], _ :: _, _ => Iff.rfl
 | _ :: _, [], _ => Iff.rfl
 | s :: cs, v :: vs, h => by
  simp only [List.all_cons, Bool.and_eq_true] at h
  simp only [List.map_cons, relS, SC.repl_rel hn h.1, relS_repl hn h.2]
theorem relT_repl (hn : n = ρ.length) : ∀ {ps : List (Bool × List SC)} {vs : List Value}, (ps.all fun v => v.2.all (SC.under n)) = true → (relT Φ (ρ ++ takeD k (c.outs Φ ρ)) w gh (ps.map fun v => (v.1, v.2.map (SC.repl c n k))) vs ↔ relT Φ ρ w gh ps vs)
 | [], [], _ => Iff.rfl
 | [], _ :: _, _ => Iff.rfl
 | _ :: _, [], _ => Iff.rfl
 | s :: cs, v :: vs, h => by
  simp only [List.all_cons, Bool.and_eq_true] at h
  simp only [List.map_cons, relT, relS_repl hn h.1, relT_repl hn h.2]
theorem SV.repl_rel (hn : n = ρ.length) : ∀ {s : SV} {v : Value}, s.under n = true → (SV.rel Φ (ρ ++ takeD k (c.outs Φ ρ)) w gh (s.repl c n k) v ↔ SV.rel Φ ρ w gh s v)
 | .c s, v, h => by simp only [SV.repl, SV.rel, SC.repl_rel hn (s := s) h]
 | .agg cs, v, h => by simp only [SV.repl, SV.rel, relS_repl hn (cs := cs) h]
 | .tup ps, v, h => by simp only [SV.repl, SV.rel, relT_repl hn (ps := ps) h]
 | .grd g s, v, h => by
  simp only [SV.under, Bool.and_eq_true] at h
  simp only [SV.repl, SV.rel, (X.repl_d hn g h.1).1, SV.repl_rel hn (s := s) h.2]
 | .und, v, _ => Iff.rfl
 | .any, v, _ => Iff.rfl
theorem ResOk_repl (hn : n = ρ.length) {r : Nat} {k' : RK} (hb : k'.under n = true) : ResOk Φ (ρ ++ takeD k (c.outs Φ ρ)) w gh r (k'.repl c n k) ↔ ResOk Φ ρ w gh r k' := by
 cases k' with
 | box e cells z => simp only [RK.repl, ResOk, relS_repl hn (cs := cells) hb]
 | row e cts x ver z => simp only [RK.repl, ResOk, (X.repl_d hn x hb).1]
theorem Nd.repl_holds (hn : n = ρ.length) {pre : FuncId → List D → Prop} {d : Nd} (hb : d.under n = true) : (d.repl c n k).holds pre Φ (ρ ++ takeD k (c.outs Φ ρ)) ↔ d.holds pre Φ ρ := by
 cases d with
 | c x => simp only [Nd.repl, Nd.holds, (X.repl_d hn x hb).1]
 | pre f as => simp only [Nd.repl, Nd.holds, (X.repl_d hn as hb).2]
 | pg g f as =>
  simp only [Nd.under, Bool.and_eq_true] at hb
  simp only [Nd.repl, Nd.holds, (X.repl_d hn g hb.1).1, (X.repl_d hn as hb.2).2]
 | ct g cts e =>
  simp only [Nd.under, Bool.and_eq_true] at hb
  simp only [Nd.repl, Nd.holds, (X.repl_d hn g hb.1).1, (X.repl_d hn e hb.2).1]
theorem RK.repl_live {r : Nat} {k' : RK} : (k'.repl c n k).live gh r = k'.live gh r := by
 cases k' with
 | box e cells z => cases z <;> rfl
 | row e cts x ver z => cases z <;> rfl
end
section
variable {P : Program} {K : Ctx} {σ : St} {gh : Gh} {a : Act} {w : World} {sg : FuncId → Option Sig}
def Ctx.more (K : Ctx) (c : X) (k : Nat) : Ctx := { K with ρ := K.ρ ++ takeD k (c.outs K.Φ K.ρ) }
theorem Inv.share {c : X} {k n : Nat} (hn : n = K.ρ.length) (h : Inv K σ gh a w) (hb : σ.under n = true) : Inv (K.more c k) (σ.repl c n k) gh a w := by
 simp only [St.under, Bool.and_eq_true] at hb
 obtain ⟨hbs, hbr⟩ := hb
 have hslot : ∀ (m : Nat) s, (σ.repl c n k).slots[m]? = some s → ∃ s0, σ.slots[m]? = some s0 ∧ s = s0.repl c n k ∧ s0.under n = true := by
  intro m s hs
  simp only [St.repl, List.getElem?_map, Option.map_eq_some_iff] at hs
  obtain ⟨s0, h1, h2⟩ := hs
  exact ⟨s0, h1, h2.symm, List.all_eq_true.1 hbs s0 (List.mem_of_getElem? h1)⟩
 have hres : ∀ r x, (σ.repl c n k).has r x → ∃ x0, σ.has r x0 ∧ x = x0.repl c n k ∧ x0.under n = true := by
  intro r x hx
  simp only [St.has, St.repl, List.getElem?_map, Option.map_eq_some_iff] at hx
  obtain ⟨y, h1, h2⟩ := hx
  obtain ⟨x0, h3, h4⟩ := h2
  subst h3
  exact ⟨x0, h1, h4.symm, by have := List.all_eq_true.1 hbr _ (List.mem_of_getElem? h1); exact this⟩
 have hres' : ∀ r x0, σ.has r x0 → (σ.repl c n k).has r (x0.repl c n k) ∧ x0.under n = true := by
  intro r x0 hx
  have hx' : σ.res[r]? = some (some x0) := hx
  refine ⟨?_, by have := List.all_eq_true.1 hbr _ (List.mem_of_getElem? hx'); exact this⟩
  simp only [St.has, St.repl, List.getElem?_map, hx', Option.map_some]
 have hon : ∀ x0 : Res, x0.under n = true → ((x0.repl c n k).on (K.more c k) ↔ x0.on K) := by
  intro x0 hb
  simp only [Res.under, Bool.and_eq_true] at hb
  simp only [Res.on, Res.repl, Ctx.more, (X.repl_d hn x0.g hb.1).1]
 refine ⟨h.defers, by rw [h.size]; simp [St.repl], fun m s hs => ?_, h.kept, h.os, h.tape, h.output, h.grow, h.pr, h.prlt, h.Flt, fun r b hb => ?_, fun r hr => ?_, fun r x hx ho => ?_, fun r x b hx ho hl => ?_, fun r x r' x' b hx ho hx' ho' hl hl' => ?_, h.le0, h.Fpr, h.tab⟩
 ·obtain ⟨s0, h1, rfl, h2⟩ := hslot m s hs
  exact (SV.repl_rel hn h2).2 (h.slot m s0 h1)
 ·obtain ⟨x0, h1, h2⟩ := h.beta r b hb
  obtain ⟨h3, h4⟩ := hres' r x0 h1
  exact ⟨_, h3, (hon x0 h4).2 h2⟩
 ·obtain ⟨x0, h1, h2⟩ := h.vr0 r hr
  obtain ⟨h3, h4⟩ := hres' r x0 h1
  exact ⟨_, h3, (hon x0 h4).2 h2⟩
 ·obtain ⟨x0, h1, rfl, h2⟩ := hres r x hx
  have := h.res r x0 h1 ((hon x0 h2).1 ho)
  simp only [Res.under, Bool.and_eq_true] at h2
  exact (ResOk_repl hn h2.2).2 this
 ·obtain ⟨x0, h1, rfl, h2⟩ := hres r x hx
  have hl' : x0.k.live gh r = some b := by rw [← hl]; exact RK.repl_live.symm
  exact h.own r x0 b h1 ((hon x0 h2).1 ho) hl'
 ·obtain ⟨x0, h1, rfl, h2⟩ := hres r x hx
  obtain ⟨y0, k1, rfl, k2⟩ := hres r' x' hx'
  have e1 : x0.k.live gh r = some b := by rw [← hl]; exact RK.repl_live.symm
  have e2 : y0.k.live gh r' = some b := by rw [← hl']; exact RK.repl_live.symm
  exact h.inj r x0 r' y0 b h1 ((hon x0 h2).1 ho) k1 ((hon y0 k2).1 ho') e1 e2
def OT.ok (Φ : FuncId → List D → List D) (pre : FuncId → List D → Prop) (leaf : List D → EK → St → Prop) : List D → OT → Prop
 | ρ, .fin k σ => leaf ρ k σ
 | ρ, .need g n t => ((g.d Φ ρ).bool = true → n.holds pre Φ ρ) ∧ t.ok Φ pre leaf ρ
 | ρ, .ite c x y => if (c.d Φ ρ).bool = true then x.ok Φ pre leaf ρ else y.ok Φ pre leaf ρ
 | ρ, .lt c k t => t.ok Φ pre leaf (ρ ++ takeD k (c.outs Φ ρ))
 | _, .fail => False
theorem share_ok {Φ : FuncId → List D → List D} {pre : FuncId → List D → Prop} {leaf : List D → EK → St → Prop} : ∀ {fuel n : Nat} {nds : List (X × Nd)} {σ : St} {K : Ctx}, K.Φ = Φ → n = K.ρ.length → (share sg fuel n nds σ).ok Φ pre leaf K.ρ →
  NdOk K pre nds ∧ ∃ δ σ', leaf (K.ρ ++ δ) .normal σ' ∧ ∀ gh a w, Inv K σ gh a w → Inv { K with ρ := K.ρ ++ δ } σ' gh a w
 | fuel, n, [], σ, K, hΦ, hn, h => by
  unfold share at h
  refine ⟨fun m hm => (by cases hm), [], σ, ?_, fun gh a w hI => ?_⟩
  ·rw [List.append_nil]; exact h
  ·rw [List.append_nil]; exact hI
 | 0, n, d :: nds, σ, K, hΦ, hn, h => by
  unfold share at h
  exact h.elim
 | fuel + 1, n, d :: nds, σ, K, hΦ, hn, h => by
  unfold share at h
  split at h
  ·obtain ⟨h1, h2⟩ := share_ok hΦ hn h.2
   refine ⟨fun m hm => ?_, h2⟩
   cases hm with
   | head => rw [hΦ]; exact h.1
   | tail _ hm => exact h1 m hm
  ·rename_i c k hc
   split at h
   ·obtain ⟨h1, h2⟩ := share_ok hΦ hn h.2
    refine ⟨fun m hm => ?_, h2⟩
    cases hm with
    | head => rw [hΦ]; exact h.1
    | tail _ hm => exact h1 m hm
   ·split at h
    ·rename_i hb
     simp only [Bool.and_eq_true] at hb
     obtain ⟨⟨hb1, hb2⟩, hb3⟩ := hb
     obtain ⟨h0, h⟩ := h
     have hΦ' : (K.more c k).Φ = Φ := hΦ
     have hρ : (K.more c k).ρ = K.ρ ++ takeD k (c.outs Φ K.ρ) := by simp only [Ctx.more, hΦ]
     have h' : (share sg fuel (n + k) (nds.map fun m => (m.1.repl c n k, m.2.repl c n k)) (σ.repl c n k)).ok Φ pre leaf (K.more c k).ρ := by rw [hρ]; exact h
     obtain ⟨h1, δ, σ', h2, h3⟩ := share_ok (K := K.more c k) hΦ' (by rw [hρ]; simp [hn]) h'
     refine ⟨fun m hm => ?_, takeD k (c.outs Φ K.ρ) ++ δ, σ', ?_, fun gh a w hI => ?_⟩
     ·cases hm with
      | head => rw [hΦ]; exact h0
      | tail _ hm =>
       have hbm := List.all_eq_true.1 hb2 m hm
       simp only [Bool.and_eq_true] at hbm
       have := h1 _ (List.mem_map_of_mem hm)
       intro hg
       refine (Nd.repl_holds (Φ := K.Φ) (c := c) (k := k) hn hbm.2).1 (this ?_)
       show ((m.1.repl c n k).d K.Φ (K.ρ ++ takeD k (c.outs K.Φ K.ρ))).bool = true
       rw [(X.repl_d hn m.1 hbm.1).1]
       exact hg
     ·rw [hρ, List.append_assoc] at h2
      exact h2
     ·have := h3 gh a w (hI.share hn hb1)
      have e : ({ K.more c k with ρ := (K.more c k).ρ ++ δ } : Ctx) = { K with ρ := K.ρ ++ (takeD k (c.outs Φ K.ρ) ++ δ) } := by
       simp only [Ctx.more, hΦ, List.append_assoc]
      rw [e] at this
      exact this
    ·exact h.elim
end
end Go.RV
namespace Go.RV
open Go.RowKit
section
variable {P : Program} {K : Ctx} {σ : St} {gh : Gh} {a : Act} {w : World} {sg : FuncId → Option Sig}
theorem Inv.retell (h : Inv K σ gh a w) {n : Nat} {s : SV} (hs : SV.rel K.Φ K.ρ w gh s (a.tmps.getD n undef)) : Inv K ⟨σ.slots.set n s, σ.res⟩ gh a w := by
 refine ⟨h.defers, by simp [h.size], fun m t ht => ?_, h.kept, h.os, h.tape, h.output, h.grow, h.pr, h.prlt, h.Flt, h.beta, h.vr0, h.res, h.own, h.inj, h.le0, h.Fpr, h.tab⟩
 simp only [List.getElem?_set] at ht
 split at ht
 ·rename_i e
  subst e
  split at ht
  ·simp only [si0] at ht
   subst ht
   exact hs
  ·cases ht
 ·exact h.slot m t ht
theorem Inv.recell (h : Inv K σ gh a w) {r : Nat} {g : X} {ety : TypeId} {cells cells' : List SC} {z : Bool} (hx : σ.has r ⟨g, .box ety cells z⟩) (hg : (g.d K.Φ K.ρ).bool = true)
  (hc : ∀ vs, relS K.Φ K.ρ w gh cells vs → relS K.Φ K.ρ w gh cells' vs) : Inv K ⟨σ.slots, σ.res.set r (some ⟨g, .box ety cells' z⟩)⟩ gh a w := by
 have hlt : r < σ.res.length := (List.getElem?_eq_some_iff.1 hx).1
 have hlive : (RK.box ety cells' z).live gh r = (RK.box ety cells z).live gh r := by cases z <;> rfl
 refine h.step (T := fun q => q = r) ⟨Gh.le.refl gh, rfl, rfl, rfl, Nat.le_refl _, fun q hq => ⟨by simp [Ne.symm hq], rfl, rfl, rfl⟩, fun _ _ _ => rfl, h.Flt, fun b hb => .inl hb,
  fun q y hT hy hony => ?_, fun q y b hT hy hony hl => ?_, fun q y q' y' c hT hT' _ _ _ _ _ _ => hT.trans hT'.symm, fun q b hT hb => ?_, fun q hT hr => ?_⟩
 ·subst hT
  rw [getElem?_set_has hlt] at hy
  simp only [si0] at hy
  subst hy
  obtain ⟨b, cur, h1, h2, h3, h4⟩ := h.res q _ hx hg
  exact ⟨b, cur, h1, h2, hc _ h3, h4⟩
 ·subst hT
  rw [getElem?_set_has hlt] at hy
  simp only [si0] at hy
  subst hy
  rw [hlive] at hl
  obtain ⟨o1, o2, o3⟩ := h.own q _ b hx hg hl
  exact ⟨o1, o2, o3, fun r2 x2 hT2 hx2 hon2 hl2 => hT2 (h.inj r2 x2 q _ b hx2 hon2 hx hg hl2 hl)⟩
 ·subst hT
  exact ⟨_, getElem?_set_has hlt, hg⟩
 ·subst hT
  exact ⟨_, getElem?_set_has hlt, hg⟩
theorem relS_set {Φ : FuncId → List D → List D} {ρ : List D} : ∀ {cs : List SC} {vs : List Value} {off : Nat} {c : SC}, relS Φ ρ w gh cs vs → (∀ s, cs[off]? = some s → SC.rel Φ ρ w gh c (vs.getD off undef)) → relS Φ ρ w gh (cs.set off c) vs
 | [], [], _, _, h, _ => h
 | s :: cs, v :: vs, 0, c, h, hc => ⟨by simpa using hc s rfl, h.2⟩
 | s :: cs, v :: vs, off + 1, c, h, hc => ⟨h.1, relS_set h.2 (fun t ht => by simpa using hc t (by simpa using ht))⟩
 | [], _ :: _, _, _, h, _ => h.elim
 | _ :: _, [], _, _, h, _ => h.elim
theorem nilRow (h : Inv K σ gh a w) (e : TypeId) (cts : List CT) : ∃ gh', Inv K ⟨σ.slots, σ.res ++ [some ⟨tt, .row e cts .lnil 1 false⟩]⟩ gh' a w ∧ gh.le gh' ∧ gh'.rv σ.res.length = .slice none 0 0 ∧ gh'.vr σ.res.length = 1 := by
 have h1 := h.addRes 1
 obtain ⟨gh', hI, hle, hrv, hvr, _⟩ := row_step (w' := w) h1 (r := σ.res.length) (by simp) (ob := none) (fun b hb => by cases hb) (ver := 1) (by rw [new_ver0 h1 (by simp)]; omega) (g := tt) rfl
  ⟨rfl, rfl, rfl, Nat.le_refl _, fun _ _ _ => rfl⟩ (e := e) (cts := cts) (content := .lnil) (xs := []) rfl (v := .slice none 0 0) (vals := []) (.inl ⟨rfl, rfl, _, rfl⟩) (fun i hi => by simp at hi) (fun b hb => by cases hb)
 refine ⟨gh', ?_, hle, hrv, hvr⟩
 simpa using hI
theorem nilAt_ok (h : Inv K σ gh a w) {p : Nat × Option Nat} {e : TypeId} {cts : List CT} {σ' : St} (hn : nilAt σ p e cts = some σ') : ∃ gh', Inv K σ' gh' a w ∧ gh.le gh' := by
 obtain ⟨gh', hI, hle, hrv, hvr⟩ := nilRow h e cts
 obtain ⟨n, q⟩ := p
 cases q with
 | none =>
  simp only [nilAt] at hn
  split at hn
  ·rename_i hs
   simp only [si0] at hn
   subst hn
   have hv : a.tmps.getD n undef = .slice none 0 0 := by
    have := h.opd (.tmp n)
    simp only [St.opd, hs] at this
    exact this.1
   refine ⟨gh', hI.retell (n := n) (s := .c (.row σ.res.length 1)) ?_, hle⟩
   rw [hv]
   exact ⟨⟨_, _, _, rfl⟩, Nat.le_refl _, by rw [hvr]; exact Nat.le_refl _, fun _ => hrv.symm⟩
  ·simp only [si0] at hn
   subst hn
   exact ⟨gh, h, Gh.le.refl gh⟩
  ·cases hn
 | some off =>
  simp only [nilAt] at hn
  split at hn
  ·rename_i g ety cells hx
   split at hn
   ·rename_i hc
    split at hn
    ·rename_i hg
     simp only [si0] at hn
     subst hn
     have hxh : σ.has n ⟨g, .box ety cells false⟩ := getD_has hx
     have hnl : n < σ.res.length := (List.getElem?_eq_some_iff.1 hxh).1
     have hxh' : (⟨σ.slots, σ.res ++ [some ⟨tt, .row e cts .lnil 1 false⟩]⟩ : St).has n ⟨g, .box ety cells false⟩ := by
      unfold St.has at hxh ⊢
      rw [List.getElem?_append_left hnl]; exact hxh
     have h2 := hI.recell hxh' (isTt_sound hg) (cells' := cells.set off (.row σ.res.length 1)) fun vs hr => relS_set hr fun s hs => by
      rw [hc] at hs
      simp only [si0] at hs
      subst hs
      have := relS_get hr hc
      rw [this.1]
      exact ⟨⟨_, _, _, rfl⟩, Nat.le_refl _, by rw [hvr]; exact Nat.le_refl _, fun _ => hrv.symm⟩
     refine ⟨gh', ?_, hle⟩
     rw [List.set_append_left _ _ hnl] at h2
     exact h2
    ·cases hn
   ·cases hn
  ·cases hn
theorem nilsAt_ok {hd : St} : ∀ {ps : List (Nat × Option Nat × TypeId)} {σ : St} {gh : Gh} {σ' : St}, Inv K σ gh a w → nilsAt P hd ps σ = some σ' → ∃ gh', Inv K σ' gh' a w ∧ gh.le gh'
 | [], σ, gh, σ', h, hn => by
  simp only [nilsAt, si0] at hn
  subst hn
  exact ⟨gh, h, Gh.le.refl gh⟩
 | p :: ps, σ, gh, σ', h, hn => by
  unfold nilsAt at hn
  split at hn
  ·split at hn
   ·rename_i σ1 h1
    obtain ⟨gh1, hI, hle⟩ := nilAt_ok (h.addRes _) h1
    obtain ⟨gh2, hI2, hle2⟩ := nilsAt_ok hI hn
    exact ⟨gh2, hI2, hle.trans hle2⟩
   ·cases hn
  ·cases hn
theorem OT.ok_bind {Φ : FuncId → List D → List D} {pre : FuncId → List D → Prop} {leaf : List D → EK → St → Prop} {f : EK → Nat → St → OT} : ∀ {t : OT} {n : Nat} {ρ : List D}, n = ρ.length → (t.bind n f).ok Φ pre leaf ρ → t.ok Φ pre (fun ρ' k σ => (f k ρ'.length σ).ok Φ pre leaf ρ') ρ
 | .fin _ _, n, ρ, hn, h => by subst hn; exact h
 | .need _ _ _, n, ρ, hn, h => ⟨h.1, OT.ok_bind hn h.2⟩
 | .ite c x y, n, ρ, hn, h => by
  unfold OT.bind OT.ok at h
  unfold OT.ok
  split
  ·rename_i hc; rw [if_pos hc] at h; exact OT.ok_bind hn h
  ·rename_i hc; rw [if_neg hc] at h; exact OT.ok_bind hn h
 | .lt c k t, n, ρ, hn, h => by
  unfold OT.bind OT.ok at h
  unfold OT.ok
  exact OT.ok_bind (by simp [hn]) h
 | .fail, _, _, _, h => h
def EK.out : EK → Exit
 | .normal => .normal
 | .exit id => .exit id
 | .ret => .ret
def LoopMeets (P : Program) (Φ : FuncId → List D → List D) (pre : List D → Prop) (L : LoopSig) (body : Code) : Prop :=
 ∀ (K : Ctx) (gh : Gh) (a : Act) (w : World) (Q : Exit → Act → World → Prop), K.Φ = Φ → K.wok = (fun n => L.ws.contains n) → K.ρ.length = L.nv → pre K.ρ → Inv K L.head gh a w →
  (∀ (ρf : List D) (gh' : Gh) (a' : Act) (w' : World) (k : EK) (vals : List D) (j : Nat), Φ L.key K.ρ = .i j :: vals → L.exits[j]? = some k → ρf = setVars K.ρ L.wv vals → Inv { K with ρ := ρf, gh0 := gh' } L.head gh' a' w' → LoopLe L K.Pr gh gh' → Q k.out a' w') →
  (Code.loop body).wp P Q a w
theorem exitsOT_ok {Φ : FuncId → List D → List D} {ρ : List D} {pre : FuncId → List D → Prop} {leaf : List D → EK → St → Prop} {c : X} {τ : St} : ∀ {es : List EK} {k0 : Nat}, (exitsOT c τ k0 es).ok Φ pre leaf ρ → ∀ {j : Nat} {k : EK}, (c.d Φ ρ).int = ((k0 + j : Nat) : Int) → es[j]? = some k → leaf ρ k τ
 | [], _, h, _, _, _, _ => h.elim
 | [e], k0, h, j, k, hc, hk => by
  cases j with
  | zero => simp only [List.getElem?_cons_zero, si0] at hk; subst hk; exact h
  | succ j => simp at hk
 | e :: e2 :: es, k0, h, j, k, hc, hk => by
  unfold exitsOT OT.ok at h
  simp only [X.d, Op2.ev, D.bool_b, D.int_i, beq_iff_eq, hc] at h
  cases j with
  | zero =>
   simp only [List.getElem?_cons_zero, si0] at hk
   subst hk
   rw [if_pos (by simp)] at h
   exact h
  | succ j =>
   rw [if_neg (by omega)] at h
   exact exitsOT_ok h (j := j) (by rw [hc]; congr 1; omega) (by simpa using hk)
theorem Inv.rebase (h : Inv K σ gh a w) : Inv { K with gh0 := gh } σ gh a w :=
 ⟨h.defers, h.size, h.slot, h.kept, h.os, h.tape, h.output, h.grow, h.pr, h.prlt, h.Flt, h.beta, h.vr0, h.res, h.own, h.inj, Gh.le.refl gh, fun _ hb => .inl hb, h.tab⟩
theorem loopEx_ok {lt : Nat → Option LoopSig} {pre : FuncId → List D → Prop} {body : Code} (hloop : ∀ L, (firstRegion body).bind lt = some L → LoopMeets P K.Φ (pre L.key) L body) {Q : Exit → Act → World → Prop} {leaf : List D → EK → St → Prop} {n : Nat} (hn : n = K.ρ.length)
  (h : Inv K σ gh a w) (ht : (loopEx P K.wok lt body n σ).ok K.Φ pre leaf K.ρ) (hQ : ∀ k σ' gh' a' w' δ, leaf (K.ρ ++ δ) k σ' → Inv { K with ρ := K.ρ ++ δ } σ' gh' a' w' → Q k.out a' w') : (Code.loop body).wp P Q a w := by
 unfold loopEx at ht
 split at ht
 ·exact ht.elim
 ·rename_i L hL
  split at ht
  ·exact ht.elim
  ·rename_i σ0 hnl
   generalize hσ1 : frzSlots L.head σ0 = σ1 at ht
   simp only at ht
   split at ht
   ·exact ht.elim
   ·rename_i args hm
    try simp only at ht
    split at ht
    ·rename_i hws
     simp only [Bool.and_eq_true] at hws
     obtain ⟨⟨hws, hcb⟩, hsb⟩ := hws
     obtain ⟨hp, ht⟩ := ht
     have hp := hp rfl
     simp only [Nd.holds, ds_consX] at hp
     obtain ⟨gh0, h0, _⟩ := nilsAt_ok h hnl
     obtain ⟨gh1, h1⟩ := frzSlots_ok L.head h0
     rw [hσ1] at h1
     have hI := loop_enter h1 hm
     obtain ⟨l, m, hk⟩ := match_ok hm
     refine hloop L hL (loopCtx K L args σ1 gh1 a w) _ a w Q rfl rfl (by simp [loopCtx, hk.len]) hp hI fun ρf gh' a' w' k vals j hfn hex hρf hI' hle => ?_
     obtain ⟨h2, _⟩ := loop_leave h1 hm hws (K' := { loopCtx K L args σ1 gh1 a w with ρ := ρf, gh0 := gh' }) (code := .i j) (vals := vals) rfl hρf rfl rfl rfl rfl hI' hle hfn
     have h3 := h2.share (c := .app L.key (consX args) 0) (k := L.wv.length + 1) hn hsb
     have hfn' : K.Φ L.key (args.map (X.d K.Φ K.ρ)) = .i j :: vals := hfn
     have hc : ((X.var n).d K.Φ (K.ρ ++ takeD (L.wv.length + 1) ((X.app L.key (consX args) 0).outs K.Φ K.ρ))).int = ((0 + j : Nat) : Int) := by
      have := repl_var (Φ := K.Φ) (k := L.wv.length + 1) hn (out := (X.app L.key (consX args) 0).outs K.Φ K.ρ) (j := 0) (by omega)
      have ev : X.var n = X.var (n + 0) := rfl
      rw [ev, this]
      simp only [X.outs, ds_consX, hfn', gz0, D.int_i, Nat.zero_add]
     exact hQ k _ _ _ _ _ (exitsOT_ok ht hc hex) h3
    ·exact ht.elim
theorem Exit.then_out {Kn : Act → World → Prop} {Q : Exit → Act → World → Prop} {k : EK} (h : k ≠ .normal) : Exit.then Kn Q k.out = Q k.out := by
 cases k with
 | normal => exact absurd rfl h
 | exit id => rfl
 | ret => rfl
theorem ex_ok {lt : Nat → Option LoopSig} {pre : FuncId → List D → Prop} {Φ : FuncId → List D → List D} {wok : Nat → Bool} (hmx : P.follows .mixedOrders = true) (hM : ∀ f S, sg f = some S → MeetsAt P f S pre Φ) :
  ∀ (c : Code) (_ : ∀ b ∈ Code.loops c, ∀ L, (firstRegion b).bind lt = some L → LoopMeets P Φ (pre L.key) L b) {K : Ctx} {σ : St} {gh : Gh} {a : Act} {w : World} {Q : Exit → Act → World → Prop} {leaf : List D → EK → St → Prop} {n : Nat},
   K.Φ = Φ → K.wok = wok → n = K.ρ.length → Inv K σ gh a w → (ex P sg wok lt c n σ).ok Φ pre leaf K.ρ → (∀ k σ' gh' a' w' δ, leaf (K.ρ ++ δ) k σ' → Inv { K with ρ := K.ρ ++ δ } σ' gh' a' w' → Q k.out a' w') → c.wp P Q a w := by
 intro c
 induction c with
 | skip =>
  intro _ K σ gh a w Q leaf n hΦ hwok hn h ht hQ
  exact wp_skip (hQ .normal σ gh a w [] (by rw [List.append_nil]; exact ht) (by rw [List.append_nil]; exact h))
 | region id ops draw =>
  intro _ K σ gh a w Q leaf n hΦ hwok hn h ht hQ
  unfold ex at ht
  split at ht
  ·rename_i σ' nd hr
   obtain ⟨hnd, δ, σ2, h1, h2⟩ := share_ok hΦ hn ht
   rw [← hwok] at hr
   exact region_ok h hr hmx (by rw [hΦ]; exact hM) hnd fun gh' a' w' h' => hQ .normal σ2 gh' a' w' δ h1 (h2 gh' a' w' h')
  ·exact ht.elim
 | seq x y ihx ihy =>
  intro hl K σ gh a w Q leaf n hΦ hwok hn h ht hQ
  unfold ex at ht
  refine wp_seq (ihx (fun b hb => hl b (by simp [Code.loops, hb])) hΦ hwok hn h (OT.ok_bind hn ht) fun k σ' gh' a' w' δ hk h' => ?_)
  cases k with
  | normal =>
   refine ihy (fun b hb => hl b (by simp [Code.loops, hb])) (K := { K with ρ := K.ρ ++ δ }) hΦ hwok rfl h' hk fun k2 σ2 gh2 a2 w2 δ2 hk2 h2 => ?_
   have e : (({ K with ρ := K.ρ ++ δ } : Ctx).ρ ++ δ2) = K.ρ ++ (δ ++ δ2) := List.append_assoc ..
   rw [e] at hk2 h2
   exact hQ k2 σ2 gh2 a2 w2 _ hk2 h2
  | exit id => exact hQ (.exit id) σ' gh' a' w' δ hk h'
  | ret => exact hQ .ret σ' gh' a' w' δ hk h'
 | cond c x y ihx ihy =>
  intro hl K σ gh a w Q leaf n hΦ hwok hn h ht hQ
  unfold ex at ht
  have hc := h.opd c
  split at ht
  ·rename_i e he
   rw [he] at hc
   obtain ⟨hv, _⟩ := rep_bool hc
   refine wp_cond hv ?_
   split at ht
   ·simp only [X.d, D.bool_b, if_true]
    exact ihx (fun b hb => hl b (by simp [Code.loops, hb])) hΦ hwok hn h ht hQ
   ·simp only [X.d, D.bool_b, fe0, if_false]
    exact ihy (fun b hb => hl b (by simp [Code.loops, hb])) hΦ hwok hn h ht hQ
   ·unfold OT.ok at ht
    rw [← hΦ] at ht
    split
    ·rename_i hb
     rw [if_pos hb] at ht
     exact ihx (fun b hb => hl b (by simp [Code.loops, hb])) hΦ hwok hn h (by rw [← hΦ]; exact ht) hQ
    ·rename_i hb
     rw [if_neg hb] at ht
     exact ihy (fun b hb => hl b (by simp [Code.loops, hb])) hΦ hwok hn h (by rw [← hΦ]; exact ht) hQ
  ·exact ht.elim
 | block id x ihx =>
  intro hl K σ gh a w Q leaf n hΦ hwok hn h ht hQ
  unfold ex at ht
  refine wp_block (ihx hl hΦ hwok hn h (OT.ok_bind hn ht) fun k σ' gh' a' w' δ hk h' => ?_)
  split at hk
  ·rename_i e
   subst e
   show (if id = id then Q .normal a' w' else Q (.exit id) a' w')
   rw [if_pos rfl]
   exact hQ .normal σ' gh' a' w' δ hk h'
  ·rename_i e
   have := hQ k σ' gh' a' w' δ hk h'
   cases k with
   | normal => exact this
   | ret => exact this
   | exit id' =>
    show (if id' = id then Q .normal a' w' else Q (.exit id') a' w')
    rw [if_neg (by rintro rfl; exact e rfl)]
    exact this
 | loop x ihx =>
  intro hl K σ gh a w Q leaf n hΦ hwok hn h ht hQ
  unfold ex at ht
  subst hΦ
  subst hwok
  exact loopEx_ok (hl x (by simp [Code.loops])) hn h ht hQ
 | exit id =>
  intro _ K σ gh a w Q leaf n hΦ hwok hn h ht hQ
  exact wp_exit (hQ (.exit id) σ gh a w [] (by rw [List.append_nil]; exact ht) (by rw [List.append_nil]; exact h))
 | ret =>
  intro _ K σ gh a w Q leaf n hΦ hwok hn h ht hQ
  exact wp_ret (hQ .ret σ gh a w [] (by rw [List.append_nil]; exact ht) (by rw [List.append_nil]; exact h))
 | rangeFunc f ps as b iha ihb =>
  intro _ _ _ _ _ _ _ _ _ _ _ _ _ ht _
  exact ht.elim
 | refuse =>
  intro _ _ _ _ _ _ _ _ _ _ _ _ _ ht _
  exact ht.elim
 | scope x ihx =>
  intro _ _ _ _ _ _ _ _ _ _ _ _ _ ht _
  exact ht.elim
 | goto l =>
  intro _ _ _ _ _ _ _ _ _ _ _ _ _ ht _
  exact ht.elim
 | label l =>
  intro _ _ _ _ _ _ _ _ _ _ _ _ _ ht _
  exact ht.elim
def VT.ok (Φ : FuncId → List D → List D) (ρ : List D) (pre : FuncId → List D → Prop) (leaf : List D → Prop) : VT → Prop
 | .ret as => leaf (as.ds Φ ρ)
 | .need g n t => ((g.d Φ ρ).bool = true → n.holds pre Φ ρ) ∧ VT.ok Φ ρ pre leaf t
 | .ite c x y => if (c.d Φ ρ).bool = true then VT.ok Φ ρ pre leaf x else VT.ok Φ ρ pre leaf y
 | .lt c k t => VT.ok Φ (ρ ++ takeD k (c.outs Φ ρ)) pre leaf t
 | .bad => False
theorem OT.ok_vt {Φ : FuncId → List D → List D} {pre : FuncId → List D → Prop} {leafV : EK → St → VT} {leaf : List D → Prop} : ∀ {t : OT} {ρ : List D}, (t.vt leafV).ok Φ ρ pre leaf → t.ok Φ pre (fun ρ' k σ => (leafV k σ).ok Φ ρ' pre leaf) ρ
 | .fin _ _, _, h => h
 | .need _ _ _, _, h => ⟨h.1, OT.ok_vt h.2⟩
 | .ite c x y, ρ, h => by
  unfold OT.vt VT.ok at h
  unfold OT.ok
  split
  ·rename_i hc; rw [if_pos hc] at h; exact OT.ok_vt h
  ·rename_i hc; rw [if_neg hc] at h; exact OT.ok_vt h
 | .lt c k t, ρ, h => by
  unfold OT.vt VT.ok at h
  unfold OT.ok
  exact OT.ok_vt h
 | .fail, _, h => h
theorem wp_loop_ghost {α : Type} {c : Code} {Q : Exit → Act → World → Prop} (I : α → Act → World → Prop) (μ : α → Nat) {x : α} (h0 : I x a w)
  (round : ∀ x a w, I x a w → c.wp P (Exit.then (fun a' w' => ∃ x', I x' a' w' ∧ μ x' < μ x) Q) a w) : (Code.loop c).wp P Q a w := by
 have least : ∀ a w, (∃ x, I x a w) → ∃ x, I x a w ∧ ∀ y, I y a w → μ x ≤ μ y := by
  intro a w ⟨x, hx⟩
  have : ∀ n x, μ x = n → I x a w → ∃ x, I x a w ∧ ∀ y, I y a w → μ x ≤ μ y := by
   intro n
   induction n using Nat.strongRecOn with
   | _ n ih =>
    intro x hn hx
    by_cases hy : ∃ y, I y a w ∧ μ y < μ x
    ·obtain ⟨y, hy1, hy2⟩ := hy
     exact ih (μ y) (by omega) y rfl hy1
    ·refine ⟨x, hx, fun y hy1 => ?_⟩
     apply Nat.le_of_not_lt
     intro hlt
     exact hy ⟨y, hy1, hlt⟩
  exact this _ x rfl hx
 let M : Act → World → Nat := fun a w => open Classical in if h : ∃ x, I x a w then μ (Classical.choose (least a w h)) else 0
 refine wp_loop (fun a w => ∃ x, I x a w) M ⟨x, h0⟩ fun a w ⟨x, hx⟩ => ?_
 have hex : ∃ x, I x a w := ⟨x, hx⟩
 obtain ⟨h1, h2⟩ := Classical.choose_spec (least a w hex)
 have hM : M a w = μ (Classical.choose (least a w hex)) := dif_pos hex
 refine wp_mono (round _ a w h1) fun e a' w' he => ?_
 cases e with
 | normal =>
  obtain ⟨x', hx', hlt⟩ := he
  refine ⟨⟨x', hx'⟩, ?_⟩
  have hex' : ∃ x, I x a' w' := ⟨x', hx'⟩
  obtain ⟨h3, h4⟩ := Classical.choose_spec (least a' w' hex')
  have hM' : M a' w' = μ (Classical.choose (least a' w' hex')) := dif_pos hex'
  rw [hM, hM']
  exact Nat.lt_of_le_of_lt (h4 x' hx') hlt
 | _ => exact he
theorem setVars_again (ρ : List D) (wv : List Nat) (v1 v2 : List D) : setVars (setVars ρ wv v1) wv v2 = setVars ρ wv v2 := by
 apply List.ext_getElem
 ·simp [setVars_length]
 ·intro i h1 h2
  have hi : i < ρ.length := by rw [setVars_length] at h2; exact h2
  have e1 := setVars_get (setVars ρ wv v1) wv v2 (i := i) (by rw [setVars_length]; exact hi)
  have e2 := setVars_get ρ wv v2 hi
  have e3 := setVars_get ρ wv v1 hi
  have g1 : (setVars (setVars ρ wv v1) wv v2).getD i default = (setVars (setVars ρ wv v1) wv v2)[i] := by simp [List.getD, h1]
  have g2 : (setVars ρ wv v2).getD i default = (setVars ρ wv v2)[i] := by simp [List.getD, h2]
  rw [← g1, ← g2, e1, e2]
  cases hp : posIn i wv with
  | some j => rfl
  | none => simp only; rw [e3, hp]
theorem posIn_none : ∀ {wv : List Nat} {i : Nat}, posIn i wv = none → wv.contains i = false
 | [], _, _ => rfl
 | k :: wv, i, h => by
  unfold posIn at h
  split at h
  ·cases h
  ·rename_i e
   cases hp : posIn i wv with
   | some j => rw [hp] at h; cases h
   | none =>
    have := posIn_none hp
    simp only [beq_iff_eq] at e
    simp only [List.contains_cons, this, Bool.or_false]
    simp
    exact fun e' => e e'.symm
theorem sameVars_get {wv : List Nat} : ∀ {xs : List X} {i : Nat}, sameVars wv i xs = true → ∀ j, j < xs.length → wv.contains (i + j) = true ∨ xs.getD j .nil = .var (i + j)
 | [], _, _, j, hj => by simp at hj
 | x :: xs, i, h, j, hj => by
  simp only [sameVars, Bool.and_eq_true, Bool.or_eq_true] at h
  cases j with
  | zero =>
   rcases h.1 with h1 | h1
   ·exact .inl h1
   ·exact .inr (by simpa using X.beq_eq _ _ h1)
  | succ j =>
   have := sameVars_get h.2 j (by simpa using hj)
   have e : i + 1 + j = i + (j + 1) := by omega
   rw [e] at this
   simpa using this
theorem sameRows_get {L : LoopSig} {τ : St} : ∀ {rs : List (Option Res)} {r0 : Nat}, sameRows L τ r0 rs = true → ∀ (r : Nat) g e c i v z, rs[r]? = some (some ⟨g, .row e c (.var i) v z⟩) → L.hv.contains i = true ∨ ∃ g' e' c' x' z', τ.res.getD (r0 + r) none = some ⟨g', .row e' c' x' v z'⟩
 | [], _, _, r, g, e, c, i, v, z, hr => by simp at hr
 | y :: rs, r0, h, r, g, e, c, i, v, z, hr => by
  have tail : sameRows L τ (r0 + 1) rs = true := by
   unfold sameRows at h
   split at h
   ·contradiction
   ·rename_i e
    simp only [List.cons.injEq] at e
    obtain ⟨_, rfl⟩ := e
    simp only [Bool.and_eq_true] at h
    exact h.2
   ·rename_i e
    simp only [List.cons.injEq] at e
    obtain ⟨_, rfl⟩ := e
    exact h
  cases r with
  | zero =>
   simp only [List.getElem?_cons_zero, si0] at hr
   subst hr
   simp only [sameRows, Bool.and_eq_true, Bool.or_eq_true] at h
   rcases h.1 with h1 | h1
   ·exact .inl h1
   ·refine .inr ?_
    split at h1
    ·rename_i g' e' c' x' v' z' hx
     simp only [beq_iff_eq] at h1
     subst h1
     exact ⟨_, _, _, _, _, hx⟩
    ·cases h1
  | succ r =>
   have := sameRows_get tail r g e c i v z (by simpa using hr)
   have e : r0 + 1 + r = r0 + (r + 1) := by omega
   rw [e] at this
   exact this
theorem ekPos_get : ∀ {es : List EK} {k : EK} {j : Nat}, ekPos k es = some j → es[j]? = some k
 | [], _, _, h => by simp [ekPos] at h
 | e :: es, k, j, h => by
  unfold ekPos at h
  split at h
  ·rename_i e1
   simp only [si0] at h
   subst h e1
   rfl
  ·cases hp : ekPos k es with
   | none => rw [hp] at h; cases h
   | some j' =>
    rw [hp] at h
    simp only [Option.map_some, si0] at h
    subst h
    simpa using ekPos_get hp
def RoundOk (Φ : FuncId → List D → List D) (pre : List D → Prop) (μ : List D → Nat) (L : LoopSig) (ρ : List D) : List D → Prop
 | .i c :: vals => if c = -1 then pre (setVars ρ L.wv vals) ∧ μ (setVars ρ L.wv vals) < μ ρ ∧ Φ L.key (setVars ρ L.wv vals) = Φ L.key ρ else Φ L.key ρ = .i c :: vals
 | _ => False
theorem loop_meets0 {Φ : FuncId → List D → List D} {lt : Nat → Option LoopSig} {pre : FuncId → List D → Prop} (hmx : P.follows .mixedOrders = true) (hM : ∀ f S, sg f = some S → MeetsAt P f S pre Φ) {body : Code}
  (hl : ∀ b ∈ Code.loops body, ∀ L, (firstRegion b).bind lt = some L → LoopMeets P Φ (pre L.key) L b) (L : LoopSig) (μ : List D → Nat) {vt : VT} (hvt : loopVT P sg lt L body = vt)
  (h : ∀ ρ, ρ.length = L.nv → pre L.key ρ → vt.ok Φ ρ pre (RoundOk Φ (pre L.key) μ L ρ)) : LoopMeets P Φ (pre L.key) L body := by
 intro K gh a w Q hΦ hwok hlen hpre hI hQ
 let I : List D → Act → World → Prop := fun ρ a w => ρ.length = L.nv ∧ pre L.key ρ ∧ (∀ vals, setVars ρ L.wv vals = setVars K.ρ L.wv vals) ∧ Φ L.key ρ = Φ L.key K.ρ ∧ ∃ gh', Inv { K with ρ := ρ, gh0 := gh' } L.head gh' a w ∧ LoopLe L K.Pr gh gh'
 refine wp_loop_ghost I μ (x := K.ρ) ⟨hlen, hpre, fun _ => rfl, rfl, gh, hI.rebase, LoopLe.refl gh⟩ fun ρ a w ⟨i1, i2, i3, i4, gh', hI', hle⟩ => ?_
 have ht := h ρ i1 i2
 rw [← hvt] at ht
 unfold loopVT at ht
 have hwok' : ({ K with ρ := ρ, gh0 := gh' } : Ctx).wok = (fun n => L.ws.contains n) := hwok
 have ht2 := OT.ok_vt ht
 refine ex_ok (K := { K with ρ := ρ, gh0 := gh' }) hmx hM body hl hΦ hwok' i1.symm hI' ht2 fun k τ gh2 a2 w2 δ hk hI2 => ?_
 rw [← hΦ] at hk
 unfold loopLeaf at hk
 obtain ⟨gh2, hI2⟩ := alignRows_ok L.head hI2
 generalize alignRows L.head τ = τ at hk hI2
 unfold loopLeaf0 at hk
 split at hk
 ·exact hk.elim
 ·rename_i args hm
  split at hk
  ·rename_i hc
   simp only [Bool.and_eq_true] at hc
   obtain ⟨hsv, hsr⟩ := hc
   obtain ⟨l, m, hmo⟩ := match_ok hm
   let vals : List D := (consX (L.wv.map fun i => args.getD i .nil)).ds K.Φ (ρ ++ δ)
   have hvals : vals = L.wv.map fun i => (args.getD i .nil).d K.Φ (ρ ++ δ) := by
    have := ds_consX (K := { K with ρ := ρ ++ δ, gh0 := gh' }) (L.wv.map fun i => args.getD i .nil)
    simp only at this
    show (consX _).ds K.Φ (ρ ++ δ) = _
    rw [this, List.map_map]
    rfl
   have hρ2 : args.map (X.d K.Φ (ρ ++ δ)) = setVars ρ L.wv vals := by
    apply List.ext_getElem
    ·rw [setVars_length, lm0, hmo.len, i1]
    ·intro i h1 h2
     have hi : i < ρ.length := by rw [setVars_length] at h2; exact h2
     have hi' : i < args.length := by simpa using h1
     have g2 : (setVars ρ L.wv vals).getD i default = (setVars ρ L.wv vals)[i] := by simp [List.getD, h2]
     rw [← g2, setVars_get ρ L.wv vals hi, List.getElem_map]
     have hai : args.getD i .nil = args[i] := by simp [List.getD, hi']
     cases hp : posIn i L.wv with
     | some j =>
      have hj := posIn_get hp
      simp only [hvals, List.getD, List.getElem?_map, hj, Option.map_some, Option.getD_some]
      simp [hi']
     | none =>
      have hn := posIn_none hp
      rcases sameVars_get hsv i hi' with h3 | h3
      ·rw [Nat.zero_add, hn] at h3; cases h3
      ·rw [Nat.zero_add, hai] at h3
       rw [h3]
       simp only [X.d, List.getD]
       rw [List.getElem?_append_left hi]
   have hI3 : ∀ g0, g0 = gh2.cut L.head.res → Inv { K with ρ := setVars ρ L.wv vals, gh0 := g0 } L.head g0 a2 w2 := by
    intro g0 hg0
    subst hg0
    exact match_inv hI2 hm (K' := { K with ρ := setVars ρ L.wv vals, gh0 := gh2.cut L.head.res }) rfl hρ2.symm rfl hI2.kept hI2.os hI2.tape hI2.output hI2.grow hI2.pr hI2.prlt fun r x b hl' hx hon hlive => (hI2.own r x b hx hon hlive).1
   have hle2 : LoopLe L K.Pr gh (gh2.cut L.head.res) := by
    refine hle.trans ⟨fun r b hb => ?_, hI2.le0.F, fun b hb => hI2.Fpr b hb, fun r g e cts i v z hx hn => ?_⟩
    ·obtain ⟨x, hx, _⟩ := hI'.beta r b hb
     simp only [Gh.cut, listed_of hx, if_true]
     exact hI2.le0.β r b hb
    ·have hx' : L.head.res[r]? = some (some ⟨g, .row e cts (.var i) v z⟩) := hx
     rcases sameRows_get hsr r g e cts i v z hx' with h3 | ⟨g', e', c', x', z', h3⟩
     ·rw [hn] at h3; cases h3
     ·rw [Nat.zero_add] at h3
      obtain ⟨y, l', h4, h5, h6, h7, _⟩ := (matchRess_get hmo.ress).2 r _ hx'
      have hy : y = ⟨g', .row e' c' x' v z'⟩ := by simp only [List.getD, h4] at h3; simpa using h3
      subst hy
      have ok2 := hI2.res r _ h4 (isTt_sound h6)
      have ok1 := hI'.res r _ hx (isTt_sound h5)
      exact hI2.le0.rv r (by rw [ok1.1]; exact ok1.2.1) (by rw [ok2.1, ok1.1])
   split at hk
   ·rename_i hkn
    subst hkn
    simp only [VT.ok, X.ds, X.d] at hk
    have hk' : RoundOk K.Φ (pre L.key) μ L ρ (.i (-1) :: vals) := by
     exact hk
    simp only [RoundOk, if_true] at hk'
    obtain ⟨k1, k2, k3⟩ := hk'
    rw [hΦ] at k3
    refine ⟨setVars ρ L.wv vals, ⟨by rw [setVars_length, i1], k1, fun v => by rw [setVars_again, i3], by rw [k3, i4], gh2.cut L.head.res, hI3 _ rfl, hle2⟩, k2⟩
   ·rename_i hkn
    split at hk
    ·rename_i j hj
     rw [Exit.then_out hkn]
     simp only [VT.ok, X.ds, X.d] at hk
     have hk' : RoundOk K.Φ (pre L.key) μ L ρ (.i (j : Int) :: vals) := hk
     simp only [RoundOk] at hk'
     rw [if_neg (by omega), hΦ, i4] at hk'
     exact hQ (setVars ρ L.wv vals) (gh2.cut L.head.res) a2 w2 k vals j hk' (ekPos_get hj) (i3 vals) (hI3 _ rfl) hle2
    ·exact hk.elim
  ·exact hk.elim
end
end Go.RV
namespace Go.RV
open Go.RowKit
theorem X.d_ext {Φ : FuncId → List D → List D} {ρ δ : List D} {n : Nat} (hn : n = ρ.length) : ∀ e : X, e.under n = true → e.d Φ (ρ ++ δ) = e.d Φ ρ ∧ e.ds Φ (ρ ++ δ) = e.ds Φ ρ := by
 intro e
 induction e with
 | n z => exact fun _ => ⟨rfl, rfl⟩
 | t b => exact fun _ => ⟨rfl, rfl⟩
 | str s => exact fun _ => ⟨rfl, rfl⟩
 | nil => exact fun _ => ⟨rfl, rfl⟩
 | lnil => exact fun _ => ⟨rfl, rfl⟩
 | var i =>
  intro h
  refine ⟨?_, rfl⟩
  have hi : i < ρ.length := by rw [← hn]; simpa [X.under] using h
  simp only [X.d, List.getD]
  rw [List.getElem?_append_left hi]
 | cons a b iha ihb =>
  intro h
  simp only [X.under, Bool.and_eq_true] at h
  exact ⟨rfl, by simp only [X.ds, (iha h.1).1, (ihb h.2).2]⟩
 | lcons a b iha ihb =>
  intro h
  simp only [X.under, Bool.and_eq_true] at h
  exact ⟨by simp only [X.d, (iha h.1).2, (ihb h.2).1], rfl⟩
 | un o a iha =>
  intro h
  exact ⟨by simp only [X.d, (iha h).1], rfl⟩
 | bin o a b iha ihb =>
  intro h
  simp only [X.under, Bool.and_eq_true] at h
  exact ⟨by simp only [X.d, (iha h.1).1, (ihb h.2).1], rfl⟩
 | ite a b d iha ihb ihd =>
  intro h
  simp only [X.under, Bool.and_eq_true] at h
  exact ⟨by simp only [X.d, (iha h.1.1).1, (ihb h.1.2).1, (ihd h.2).1], rfl⟩
 | sel j a b iha ihb =>
  intro h
  simp only [X.under, Bool.and_eq_true] at h
  exact ⟨by simp only [X.d, (iha h.1).1, (ihb h.2).1], rfl⟩
 | sub a b d iha ihb ihd =>
  intro h
  simp only [X.under, Bool.and_eq_true] at h
  exact ⟨by simp only [X.d, (iha h.1.1).1, (ihb h.1.2).1, (ihd h.2).1], rfl⟩
 | snoc a b iha ihb =>
  intro h
  simp only [X.under, Bool.and_eq_true] at h
  exact ⟨by simp only [X.d, (iha h.1).1, (ihb h.2).2], rfl⟩
 | upd j a b d iha ihb ihd =>
  intro h
  simp only [X.under, Bool.and_eq_true] at h
  exact ⟨by simp only [X.d, (iha h.1.1).1, (ihb h.1.2).1, (ihd h.2).2], rfl⟩
 | rep a b iha ihb =>
  intro h
  simp only [X.under, Bool.and_eq_true] at h
  exact ⟨by simp only [X.d, (iha h.1).1, (ihb h.2).2], rfl⟩
 | nth a b iha ihb =>
  intro h
  simp only [X.under, Bool.and_eq_true] at h
  exact ⟨by simp only [X.d, (iha h.1).2, (ihb h.2).1], rfl⟩
 | app f as j iha =>
  intro h
  exact ⟨by simp only [X.d, (iha h).2], rfl⟩
 | dyn d as j ihd iha =>
  intro h
  simp only [X.under, Bool.and_eq_true] at h
  exact ⟨by simp only [X.d, (ihd h.1).1, (iha h.2).2], rfl⟩
 | pk a iha =>
  intro h
  exact ⟨by simp only [X.d, (iha h).2], rfl⟩
 | psel j a iha =>
  intro h
  exact ⟨by simp only [X.d, (iha h).1], rfl⟩
 | clo f t a iha =>
  intro h
  exact ⟨by simp only [X.d, (iha h).2], rfl⟩
def X.nn : X → X
 | .un .not a => match X.nn a with
  | .un .not b => b
  | .t b => .t (!b)
  | b => .un .not b
 | .ite a b c => .ite (X.nn a) (X.nn b) (X.nn c)
 | e => e
theorem X.nn_bool {Φ : FuncId → List D → List D} {ρ : List D} : ∀ e : X, ((X.nn e).d Φ ρ).bool = (e.d Φ ρ).bool := by
 intro e
 induction e with
 | un o a iha =>
  cases o with
  | not =>
   unfold X.nn
   split
   ·rename_i b hb
    rw [hb] at iha
    simp only [X.d, Op1.ev, D.bool_b] at iha ⊢
    rw [← iha, Bool.not_not]
   ·rename_i b hb
    rw [hb] at iha
    simp only [X.d, Op1.ev, D.bool_b] at iha ⊢
    rw [← iha]
   ·simp only [X.d, Op1.ev, D.bool_b, iha]
  | _ => rfl
 | ite a b c iha ihb ihc =>
  simp only [X.nn, X.d, iha]
  split
  ·exact ihb
  ·exact ihc
 | _ => rfl
def Nd.beq : Nd → Nd → Bool
 | .c a, .c b => X.beq a b
 | .pre f a, .pre g b => f == g && X.beq a b
 | _, _ => false
theorem Nd.beq_eq : ∀ {a b : Nd}, Nd.beq a b = true → a = b
 | .c a, .c b, h => by rw [X.beq_eq _ _ h]
 | .pre f a, .pre g b, h => by
  simp only [Nd.beq, Bool.and_eq_true, beq_iff_eq] at h
  rw [h.1, X.beq_eq _ _ h.2]
 | .c _, .pre _ _, h => by cases h
 | .pre _ _, .c _, h => by cases h
 | .pg _ _ _, _, h => by cases h
 | .ct _ _ _, _, h => by cases h
 | .c _, .pg _ _ _, h => by cases h
 | .c _, .ct _ _ _, h => by cases h
 | .pre _ _, .pg _ _ _, h => by cases h
 | .pre _ _, .ct _ _ _, h => by cases h
def ndTriv : Nd → Bool
 | .c (.bin .le (.n a) (.n b)) => decide (a ≤ b)
 | .c (.bin .lt (.n a) (.n b)) => decide (a < b)
 | .c (.bin .le (.n z) (.un .len _)) => decide (z ≤ 0)
 | _ => false
theorem ndTriv_holds {Φ : FuncId → List D → List D} {ρ : List D} {pre : FuncId → List D → Prop} {d : Nd} (h : ndTriv d = true) : d.holds pre Φ ρ := by
 unfold ndTriv at h
 split at h
 ·exact h
 ·exact h
 ·have h' := of_decide_eq_true h
  exact decide_eq_true (Int.le_trans h' (Int.natCast_nonneg _))
 ·cases h
def X.conj : X → List X
 | .ite a b (.t false) => X.conj a ++ X.conj b
 | e => [e]
theorem X.conj_holds {Φ : FuncId → List D → List D} {ρ : List D} : ∀ {e : X}, (e.d Φ ρ).bool = true → ∀ c ∈ X.conj e, (c.d Φ ρ).bool = true := by
 intro e
 induction e with
 | ite a b c iha ihb ihc =>
  intro h x hx
  unfold X.conj at hx
  split at hx
  ·rename_i a' b' he
   cases he
   simp only [X.d] at h
   split at h
   ·rename_i ha
    rcases List.mem_append.1 hx with hx | hx
    ·exact iha ha x hx
    ·exact ihb h x hx
   ·simp at h
  ·simp only [List.mem_singleton] at hx
   subst hx
   exact h
 | _ =>
  intro h x hx
  simp only [X.conj, List.mem_singleton] at hx
  subst hx
  exact h
def X.disj : X → List X
 | .ite a (.t true) b => X.disj a ++ X.disj b
 | e => [e]
theorem X.disj_fails {Φ : FuncId → List D → List D} {ρ : List D} : ∀ {e : X}, (e.d Φ ρ).bool = false → ∀ c ∈ X.disj e, (c.d Φ ρ).bool = false := by
 intro e
 induction e with
 | ite a b c iha ihb ihc =>
  intro h x hx
  unfold X.disj at hx
  split at hx
  ·rename_i a' b' he
   cases he
   simp only [X.d] at h
   split at h
   ·simp at h
   ·rename_i ha
    rcases List.mem_append.1 hx with hx | hx
    ·exact iha (by simpa using ha) x hx
    ·exact ihc h x hx
  ·simp only [List.mem_singleton] at hx
   subst hx
   exact h
 | _ =>
  intro h x hx
  simp only [X.disj, List.mem_singleton] at hx
  subst hx
  exact h
def factsT (n : Nat) (c : X) : List (X × Nd) := ((X.conj c).filter (X.under n)).map fun e => (tt, .c e)
def factsF (n : Nat) (c : X) : List (X × Nd) := ((X.disj c).filter (X.under n)).map fun e => (tt, .c (X.nn (.un .not e)))
theorem X.nn_under {n : Nat} : ∀ {e : X}, e.under n = true → (X.nn e).under n = true := by
 intro e
 induction e with
 | un o a iha =>
  intro h
  cases o with
  | not =>
   have ha := iha h
   unfold X.nn
   split
   ·rename_i b hb
    rw [hb] at ha
    exact ha
   ·rfl
   ·exact ha
  | _ => exact h
 | ite a b c iha ihb ihc =>
  intro h
  simp only [X.under, Bool.and_eq_true] at h
  simp only [X.nn, X.under, iha h.1.1, ihb h.1.2, ihc h.2, Bool.and_self]
 | _ => exact fun h => h
def knows (known : List (X × Nd)) (c : X) : Bool := known.any fun k => isTt k.1 && Nd.beq k.2 (.c c)
def eqConst (x : X) : List (X × Nd) → Option Int
 | [] => none
 | (g, .c (.bin .eq y (.n z))) :: ks => if isTt g && X.beq y x then some z else eqConst x ks
 | _ :: ks => eqConst x ks
def decAtom (known : List (X × Nd)) : X → Option Bool
 | .bin .eq x (.n z) => (eqConst x known).map fun k => k == z
 | .bin .le (.n z) x => (eqConst x known).map fun k => decide (z ≤ k)
 | .bin .le x (.n z) => (eqConst x known).map fun k => decide (k ≤ z)
 | .bin .lt (.n z) x => (eqConst x known).map fun k => decide (z < k)
 | .bin .lt x (.n z) => (eqConst x known).map fun k => decide (k < z)
 | _ => none
def decIte : Option Bool → Option Bool → Option Bool → Option Bool
 | some true, b, _ => b
 | some false, _, c => c
 | none, some u, some v => if u == v then some u else none
 | none, _, _ => none
theorem decIte_sound {x y z : D} {a b c : Option Bool} {r : Bool} (ha : ∀ u, a = some u → x.bool = u) (hb : ∀ u, b = some u → y.bool = u) (hc : ∀ u, c = some u → z.bool = u) (h : decIte a b c = some r) : (if x.bool = true then y else z).bool = r := by
 cases a with
 | some u =>
  have := ha u rfl
  cases u with
  | true => rw [if_pos this]; exact hb r h
  | false => rw [if_neg (by rw [this]; decide)]; exact hc r h
 | none =>
  cases b with
  | none => cases h
  | some u =>
   cases c with
   | none => cases h
   | some v =>
    simp only [decIte] at h
    split at h
    ·rename_i huv
     simp only [beq_iff_eq] at huv
     simp only [si0] at h
     subst huv
     subst h
     split
     ·exact hb _ rfl
     ·exact hc _ rfl
    ·cases h
def X.decB (known : List (X × Nd)) (c : X) : Option Bool :=
 if knows known c then some true else if knows known (X.nn (.un .not c)) then some false else match c with
 | .t b => some b
 | .un .not a => (X.decB known a).map (!·)
 | .ite a b c => decIte (X.decB known a) (X.decB known b) (X.decB known c)
 | c => decAtom known c
def VT.slim (n : Nat) (known : List (X × Nd)) : VT → VT
 | .ret as => .ret as
 | .need g d t =>
  let g' := X.nn g
  if X.decB known g' == some false || ndTriv d || known.any (fun k => Nd.beq k.2 d && (isTt k.1 || X.beq k.1 g')) then VT.slim n known t
  else .need g' d (VT.slim n (if g'.under n && d.under n then (g', d) :: known else known) t)
 | .ite c a b => match X.decB known (X.nn c) with
  | some true => VT.slim n known a
  | some false => VT.slim n known b
  | none => .ite (X.nn c) (VT.slim n (factsT n (X.nn c) ++ known) a) (VT.slim n (factsF n (X.nn c) ++ known) b)
 | .lt c k t => .lt c k (VT.slim (n + k) known t)
 | .bad => .bad
def KnownOk (Φ : FuncId → List D → List D) (pre : FuncId → List D → Prop) (n : Nat) (ρ : List D) (known : List (X × Nd)) : Prop :=
 ∀ k ∈ known, k.1.under n = true ∧ k.2.under n = true ∧ ((k.1.d Φ ρ).bool = true → k.2.holds pre Φ ρ)
theorem Nd.holds_ext {Φ : FuncId → List D → List D} {pre : FuncId → List D → Prop} {ρ δ : List D} {n : Nat} (hn : n = ρ.length) {d : Nd} (hu : d.under n = true) (h : d.holds pre Φ ρ) : d.holds pre Φ (ρ ++ δ) := by
 cases d with
 | c x => simp only [Nd.holds, (X.d_ext hn x hu).1] at h ⊢; exact h
 | pre f as => simp only [Nd.holds, (X.d_ext hn as hu).2] at h ⊢; exact h
 | pg g f as =>
  simp only [Nd.under, Bool.and_eq_true] at hu
  simp only [Nd.holds, (X.d_ext hn g hu.1).1, (X.d_ext hn as hu.2).2] at h ⊢
  exact h
 | ct g cts e =>
  simp only [Nd.under, Bool.and_eq_true] at hu
  simp only [Nd.holds, (X.d_ext hn g hu.1).1, (X.d_ext hn e hu.2).1] at h ⊢
  exact h
theorem under_mono {n m : Nat} (h : n ≤ m) : ∀ {e : X}, e.under n = true → e.under m = true := by
 intro e
 induction e with
 | var i => intro h1; simp only [X.under, Nat.blt_eq] at h1 ⊢; omega
 | n z => exact fun _ => rfl
 | t b => exact fun _ => rfl
 | str s => exact fun _ => rfl
 | nil => exact fun _ => rfl
 | lnil => exact fun _ => rfl
 | un o a iha => exact fun h => iha h
 | pk a iha => exact fun h => iha h
 | psel j a iha => exact fun h => iha h
 | clo f t a iha => exact fun h => iha h
 | app f a j iha => exact fun h => iha h
 | cons a b iha ihb => intro h; simp only [X.under, Bool.and_eq_true] at h ⊢; exact ⟨iha h.1, ihb h.2⟩
 | lcons a b iha ihb => intro h; simp only [X.under, Bool.and_eq_true] at h ⊢; exact ⟨iha h.1, ihb h.2⟩
 | snoc a b iha ihb => intro h; simp only [X.under, Bool.and_eq_true] at h ⊢; exact ⟨iha h.1, ihb h.2⟩
 | rep a b iha ihb => intro h; simp only [X.under, Bool.and_eq_true] at h ⊢; exact ⟨iha h.1, ihb h.2⟩
 | nth a b iha ihb => intro h; simp only [X.under, Bool.and_eq_true] at h ⊢; exact ⟨iha h.1, ihb h.2⟩
 | bin o a b iha ihb => intro h; simp only [X.under, Bool.and_eq_true] at h ⊢; exact ⟨iha h.1, ihb h.2⟩
 | sel j a b iha ihb => intro h; simp only [X.under, Bool.and_eq_true] at h ⊢; exact ⟨iha h.1, ihb h.2⟩
 | dyn a b j iha ihb => intro h; simp only [X.under, Bool.and_eq_true] at h ⊢; exact ⟨iha h.1, ihb h.2⟩
 | ite a b c iha ihb ihc => intro h; simp only [X.under, Bool.and_eq_true] at h ⊢; exact ⟨⟨iha h.1.1, ihb h.1.2⟩, ihc h.2⟩
 | sub a b c iha ihb ihc => intro h; simp only [X.under, Bool.and_eq_true] at h ⊢; exact ⟨⟨iha h.1.1, ihb h.1.2⟩, ihc h.2⟩
 | upd j a b c iha ihb ihc => intro h; simp only [X.under, Bool.and_eq_true] at h ⊢; exact ⟨⟨iha h.1.1, ihb h.1.2⟩, ihc h.2⟩
theorem Nd.under_mono {n m : Nat} (h : n ≤ m) {d : Nd} (hu : d.under n = true) : d.under m = true := by
 cases d with
 | c x => exact Go.RV.under_mono h hu
 | pre f as => exact Go.RV.under_mono h hu
 | pg g f as =>
  simp only [Nd.under, Bool.and_eq_true] at hu ⊢
  exact ⟨Go.RV.under_mono h hu.1, Go.RV.under_mono h hu.2⟩
 | ct g cts e =>
  simp only [Nd.under, Bool.and_eq_true] at hu ⊢
  exact ⟨Go.RV.under_mono h hu.1, Go.RV.under_mono h hu.2⟩
theorem KnownOk.ext {Φ : FuncId → List D → List D} {pre : FuncId → List D → Prop} {n k : Nat} {ρ δ : List D} {known : List (X × Nd)} (hn : n = ρ.length) (h : KnownOk Φ pre n ρ known) : KnownOk Φ pre (n + k) (ρ ++ δ) known := fun x hx =>
 let ⟨h1, h2, h3⟩ := h x hx
 ⟨under_mono (Nat.le_add_right _ _) h1, Nd.under_mono (Nat.le_add_right _ _) h2, fun hb => Nd.holds_ext hn h2 (h3 (by rw [(X.d_ext hn x.1 h1).1] at hb; exact hb))⟩
theorem KnownOk.append {Φ : FuncId → List D → List D} {pre : FuncId → List D → Prop} {n : Nat} {ρ : List D} {k1 k2 : List (X × Nd)} (h1 : KnownOk Φ pre n ρ k1) (h2 : KnownOk Φ pre n ρ k2) : KnownOk Φ pre n ρ (k1 ++ k2) := fun x hx => (List.mem_append.1 hx).elim (h1 x) (h2 x)
theorem factsT_ok {Φ : FuncId → List D → List D} {pre : FuncId → List D → Prop} {n : Nat} {ρ : List D} {c : X} (h : (c.d Φ ρ).bool = true) : KnownOk Φ pre n ρ (factsT n c) := by
 intro x hx
 simp only [factsT, List.mem_map, List.mem_filter] at hx
 obtain ⟨e, ⟨h1, h2⟩, rfl⟩ := hx
 exact ⟨rfl, h2, fun _ => X.conj_holds h e h1⟩
theorem factsF_ok {Φ : FuncId → List D → List D} {pre : FuncId → List D → Prop} {n : Nat} {ρ : List D} {c : X} (h : (c.d Φ ρ).bool = false) : KnownOk Φ pre n ρ (factsF n c) := by
 intro x hx
 simp only [factsF, List.mem_map, List.mem_filter] at hx
 obtain ⟨e, ⟨h1, h2⟩, rfl⟩ := hx
 refine ⟨rfl, X.nn_under (e := .un .not e) h2, fun _ => ?_⟩
 show ((X.nn (.un .not e)).d Φ ρ).bool = true
 rw [X.nn_bool]
 simp only [X.d, Op1.ev, D.bool_b, X.disj_fails h e h1, Bool.not_false]
theorem knows_sound {Φ : FuncId → List D → List D} {pre : FuncId → List D → Prop} {n : Nat} {ρ : List D} {known : List (X × Nd)} (hk : KnownOk Φ pre n ρ known) {c : X} (h : knows known c = true) : (c.d Φ ρ).bool = true := by
 obtain ⟨k, h1, h2⟩ := List.any_eq_true.1 h
 simp only [Bool.and_eq_true] at h2
 have := (hk k h1).2.2 (isTt_sound h2.1)
 rw [Nd.beq_eq h2.2] at this
 exact this
theorem eqConst_sound {Φ : FuncId → List D → List D} {pre : FuncId → List D → Prop} {n : Nat} {ρ : List D} {x : X} {z : Int} : ∀ {known : List (X × Nd)}, KnownOk Φ pre n ρ known → eqConst x known = some z → (x.d Φ ρ).int = z
 | [], _, h => by cases h
 | k :: ks, hk, h => by
  have hks : KnownOk Φ pre n ρ ks := fun y hy => hk y (List.mem_cons_of_mem _ hy)
  unfold eqConst at h
  split at h
  ·cases h
  ·rename_i g y z' ks' he
   simp only [List.cons.injEq] at he
   obtain ⟨rfl, rfl⟩ := he
   split at h
   ·rename_i hc
    simp only [Bool.and_eq_true] at hc
    simp only [si0] at h
    subst h
    have := (hk _ List.mem_cons_self).2.2 (isTt_sound hc.1)
    rw [← X.beq_eq _ _ hc.2]
    simpa [Nd.holds, X.d, Op2.ev] using this
   ·exact eqConst_sound hks h
  ·rename_i he
   simp only [List.cons.injEq] at he
   obtain ⟨rfl, rfl⟩ := he
   exact eqConst_sound hks h
theorem decAtom_sound {Φ : FuncId → List D → List D} {pre : FuncId → List D → Prop} {n : Nat} {ρ : List D} {known : List (X × Nd)} (hk : KnownOk Φ pre n ρ known) {c : X} {b : Bool} (h : decAtom known c = some b) : (c.d Φ ρ).bool = b := by
  unfold decAtom at h
  split at h
  all_goals first
    | (cases h; done)
    | (simp only [Option.map_eq_some_iff] at h
       obtain ⟨k, h1, rfl⟩ := h
       have := eqConst_sound hk h1
       simp only [X.d, Op2.ev, D.bool_b, D.int_i, this])
theorem X.decB_sound {Φ : FuncId → List D → List D} {pre : FuncId → List D → Prop} {n : Nat} {ρ : List D} {known : List (X × Nd)} (hk : KnownOk Φ pre n ρ known) : ∀ (c : X) {b : Bool}, X.decB known c = some b → (c.d Φ ρ).bool = b := by
 have base : ∀ (c : X) {b : Bool} (r : Option Bool), (r = some b → (c.d Φ ρ).bool = b) → (if knows known c then some true else if knows known (X.nn (.un .not c)) then some false else r) = some b → (c.d Φ ρ).bool = b := by
  intro c b r hr h
  split at h
  ·simp only [si0] at h; subst h; exact knows_sound hk ‹_›
  ·split at h
   ·rename_i hn
    simp only [si0] at h
    subst h
    have := knows_sound hk hn
    rw [X.nn_bool] at this
    simpa [X.d, Op1.ev] using this
   ·exact hr h
 intro c
 induction c with
 | t x =>
  intro b h
  unfold X.decB at h
  exact base (.t x) (some x) (fun e => by simp only [si0] at e; subst e; rfl) h
 | un o a iha =>
  intro b h
  unfold X.decB at h
  cases o with
  | not => exact base (.un .not a) ((X.decB known a).map (!·)) (fun e => by
    simp only [Option.map_eq_some_iff] at e
    obtain ⟨u, h1, rfl⟩ := e
    simp only [X.d, Op1.ev, D.bool_b, iha h1]) h
  | _ => exact base _ _ (fun e => decAtom_sound hk e) h
 | ite x y z ihx ihy ihz =>
  intro b h
  unfold X.decB at h
  exact base (.ite x y z) _ (fun e => decIte_sound (fun _ => ihx) (fun _ => ihy) (fun _ => ihz) e) h
 | _ =>
  intro b h
  unfold X.decB at h
  exact base _ _ (fun e => decAtom_sound hk e) h
theorem VT.slim_ok {Φ : FuncId → List D → List D} {pre : FuncId → List D → Prop} {leaf : List D → Prop} : ∀ {t : VT} {n : Nat} {ρ : List D} {known : List (X × Nd)}, n = ρ.length → KnownOk Φ pre n ρ known → (t.slim n known).ok Φ ρ pre leaf → t.ok Φ ρ pre leaf
 | .ret _, _, _, _, _, _, h => h
 | .need g d t, n, ρ, known, hn, hk, h => by
  unfold VT.slim at h
  simp only at h
  split at h
  ·rename_i hc
   refine ⟨fun hg => ?_, VT.slim_ok hn hk h⟩
   simp only [Bool.or_eq_true] at hc
   rcases hc with (hc | hc) | hc
   ·have h1 := X.decB_sound hk _ (by simpa using hc : X.decB known (X.nn g) = some false)
    rw [X.nn_bool, hg] at h1
    cases h1
   ·exact ndTriv_holds hc
   ·obtain ⟨k, hk1, hk2⟩ := List.any_eq_true.1 hc
    simp only [Bool.and_eq_true, Bool.or_eq_true] at hk2
    obtain ⟨h1, h2, h3⟩ := hk k hk1
    have e := Nd.beq_eq hk2.1
    rw [← e]
    refine h3 ?_
    rcases hk2.2 with h4 | h4
    ·exact isTt_sound h4
    ·rw [X.beq_eq _ _ h4, X.nn_bool]; exact hg
  ·obtain ⟨h1, h2⟩ := h
   have h1' : (g.d Φ ρ).bool = true → d.holds pre Φ ρ := fun hg => h1 (by rw [X.nn_bool]; exact hg)
   refine ⟨h1', VT.slim_ok hn ?_ h2⟩
   split
   ·rename_i hu
    simp only [Bool.and_eq_true] at hu
    intro x hx
    cases hx with
    | head => exact ⟨hu.1, hu.2, h1⟩
    | tail _ hx => exact hk x hx
   ·exact hk
 | .ite c a b, n, ρ, known, hn, hk, h => by
  unfold VT.slim at h
  unfold VT.ok
  split at h
  ·rename_i hd
   have := X.decB_sound hk _ hd
   rw [X.nn_bool] at this
   rw [if_pos this]
   exact VT.slim_ok hn hk h
  ·rename_i hd
   have := X.decB_sound hk _ hd
   rw [X.nn_bool] at this
   rw [if_neg (by rw [this]; simp)]
   exact VT.slim_ok hn hk h
  ·unfold VT.ok at h
   rw [X.nn_bool] at h
   split
   ·rename_i hc
    rw [if_pos hc] at h
    exact VT.slim_ok hn (KnownOk.append (factsT_ok (by rw [X.nn_bool]; exact hc)) hk) h
   ·rename_i hc
    rw [if_neg hc] at h
    exact VT.slim_ok hn (KnownOk.append (factsF_ok (by rw [X.nn_bool]; simpa using hc)) hk) h
 | .lt c k t, n, ρ, known, hn, hk, h => by
  unfold VT.slim VT.ok at h
  unfold VT.ok
  exact VT.slim_ok (by simp [hn]) (hk.ext hn) h
 | .bad, _, _, _, _, _, h => h
end Go.RV
