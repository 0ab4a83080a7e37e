/-
  RV, part 5: operators; addresses.
-/
import Derived.Test.YthnilbkkihmpoaaRvOps1
namespace Go.RV
open Go.RowKit

section
variable {P : Program} {K : Ctx} {σ : St} {gh : Gh} {a : Act} {w : World} {o : Oper}

theorem tmod_within {k : IntKind} {n m : Int} (hn : k.min ≤ n ∧ n ≤ k.max) : k.min ≤ n.tmod m ∧ n.tmod m ≤ k.max := by
  have h0 : k.min ≤ 0 := by cases k <;> decide
  have h1 : 0 ≤ k.max := by cases k <;> decide
  have hle : (n.tmod m).natAbs ≤ n.natAbs := by rw [Int.natAbs_tmod]; exact Nat.mod_le _ _
  rcases Int.le_total 0 n with hp | hp
  · have a1 := Int.tmod_nonneg m hp
    omega
  · have e : n.tmod m = -((-n).tmod m) := by rw [Int.neg_tmod]; omega
    have a1 := Int.tmod_nonneg m (show 0 ≤ -n by omega)
    omega

theorem fdiv_within {k : IntKind} {n : Int} (m : Nat) (hn : k.min ≤ n ∧ n ≤ k.max) : k.min ≤ n.fdiv (2 ^ m) ∧ n.fdiv (2 ^ m) ≤ k.max := by
  have hp : (0 : Int) < 2 ^ m := Int.pow_pos (by omega)
  have e : n.fdiv (2 ^ m) = n / (2 ^ m) := Int.fdiv_eq_ediv_of_nonneg _ (by omega)
  rw [e]
  have h0 : k.min ≤ 0 := by cases k <;> decide
  have h1 : 0 ≤ k.max := by cases k <;> decide
  rcases Int.le_total 0 n with h | h
  · have a1 := Int.ediv_nonneg h (Int.le_of_lt hp)
    have a2 := Int.ediv_le_self (2 ^ m) h
    omega
  · have a1 : n / 2 ^ m ≤ 0 := Int.ediv_nonpos_of_nonpos_of_neg h hp
    have a2 : n ≤ n / 2 ^ m := by
      rw [Int.le_ediv_iff_mul_le hp]
      have := Int.mul_le_mul_of_nonpos_left h (show (1 : Int) ≤ 2 ^ m by omega)
      omega
    omega

theorem run_binOp {op : BinOp} {t t' : TypeId} {x y : Operand} (ho : o.op = .binOp op t x y t') {v u r : Value} (hv : a.eval x = v) (hu : a.eval y = u)
    (hg : (eqGuard op t x y v u).run P w = .ok () w) (hr : (binOp op t v u).run P w = .ok r w) : (execOp a.eval o).run P w = .ok (.value r) w := by
  simp [execOp, ho, hv, hu, hg, hr]

theorem guard_int {op : BinOp} {t : TypeId} {x y : Operand} {k k' : IntKind} {n m : Int} : (eqGuard op t x y (.int k n) (.int k' m)).run P w = .ok () w := by
  simp [eqGuard]
theorem guard_bool {op : BinOp} {t : TypeId} {x y : Operand} {n m : Bool} : (eqGuard op t x y (.bool n) (.bool m)).run P w = .ok () w := by
  simp [eqGuard]
theorem guard_str {op : BinOp} {t : TypeId} {x y : Operand} {n m : ByteArray} : (eqGuard op t x y (.string n) (.string m)).run P w = .ok () w := by
  simp [eqGuard]

theorem quoNd_ne {y : X} {pre : FuncId → List D → Prop} (h : ∀ n ∈ quoNd y, n.holds pre K.Φ K.ρ) : (y.d K.Φ K.ρ).int ≠ 0 := by
  unfold quoNd at h
  split at h
  · rename_i z
    by_cases hz : z = 0
    · simp [hz, Nd.holds, X.d] at h
    · simpa [X.d] using hz
  · have := h _ (List.mem_singleton.2 rfl)
    simpa [Nd.holds, X.d_notX, X.d, Op2.ev] using this

theorem shNd_ge {y : X} {pre : FuncId → List D → Prop} (h : ∀ n ∈ shNd y, n.holds pre K.Φ K.ρ) : 0 ≤ (y.d K.Φ K.ρ).int := by
  unfold shNd at h
  split at h
  · rename_i z
    by_cases hz : 0 ≤ z
    · simpa [X.d] using hz
    · simp [hz, Nd.holds, X.d] at h
  · have := h _ (List.mem_singleton.2 rfl)
    have h2 := of_decide_eq_true (p := (0 : Int) ≤ (y.d K.Φ K.ρ).int) this
    exact h2

theorem eff_bin_int (h : Inv K σ gh a w) {op : BinOp} {t t' : TypeId} {x y : Operand} (ho : o.op = .binOp op t x y t') {k k' : IntKind} {ex ey : X}
    (hx : Rep w gh.F (.int k) (a.eval x) (ex.d K.Φ K.ρ)) (hy : Rep w gh.F (.int k') (a.eval y) (ey.d K.Φ K.ρ)) {eo : EO} {pre : FuncId → List D → Prop}
    (he : (effBin P op t (.c (.x (.int k) ex)) (.c (.x (.int k') ey))).run σ.res = some eo) (hn : ∀ n ∈ eo.nd, n.holds pre K.Φ K.ρ) : EffOk K σ P o a w eo := by
  obtain ⟨hv, hd, hb⟩ := rep_int hx
  obtain ⟨hu, hd', hb'⟩ := rep_int hy
  have go : ∀ {s : SV} {nd : List Nd} {r : Value}, (binOp op t (.int k (ex.d K.Φ K.ρ).int) (.int k' (ey.d K.Φ K.ρ).int)).run P w = .ok r w → SV.rel K.Φ K.ρ w gh s r → EffOk K σ P o a w ⟨s, [], nd⟩ :=
    fun hr hs => EffOk.pure h (run_binOp ho hv hu guard_int hr) hs
  unfold effBin at he
  simp only at he
  split at he
  · simp only [RM.run, Option.some.injEq] at he
    subst he
    have h0 := shNd_ge hn
    exact go (r := .int k (k.wrap ((ex.d K.Φ K.ρ).int * 2 ^ min (ey.d K.Φ K.ρ).int.toNat k.bits))) (by simp [binOp, Op.shift, Int.not_lt.2 h0]) (rep_mk_int rfl (wrap_within _ _))
  · simp only [RM.run, Option.some.injEq] at he
    subst he
    have h0 := shNd_ge hn
    exact go (r := .int k ((ex.d K.Φ K.ρ).int.fdiv (2 ^ min (ey.d K.Φ K.ρ).int.toNat k.bits))) (by simp [binOp, Op.shift, Int.not_lt.2 h0]) (rep_mk_int rfl (fdiv_within _ hb))
  · split at he
    · rename_i hk
      simp only [decide_eq_true_eq] at hk
      subst hk
      split at he <;> simp only [RM.run, Option.some.injEq, reduceCtorEq] at he <;> subst he
      · exact go (r := .int k (k.wrap ((ex.d K.Φ K.ρ).int + (ey.d K.Φ K.ρ).int))) (by simp [binOp, Op.intArith]) (rep_mk_int rfl (wrap_within _ _))
      · exact go (r := .int k (k.wrap ((ex.d K.Φ K.ρ).int - (ey.d K.Φ K.ρ).int))) (by simp [binOp, Op.intArith]) (rep_mk_int rfl (wrap_within _ _))
      · exact go (r := .int k (k.wrap ((ex.d K.Φ K.ρ).int * (ey.d K.Φ K.ρ).int))) (by simp [binOp, Op.intArith]) (rep_mk_int rfl (wrap_within _ _))
      · have h0 := quoNd_ne hn
        exact go (r := .int k (k.wrap ((ex.d K.Φ K.ρ).int.tdiv (ey.d K.Φ K.ρ).int))) (by simp [binOp, Op.intDiv, h0]) (rep_mk_int rfl (wrap_within _ _))
      · have h0 := quoNd_ne hn
        exact go (r := .int k ((ex.d K.Φ K.ρ).int.tmod (ey.d K.Φ K.ρ).int)) (by simp [binOp, Op.intDiv, h0]) (rep_mk_int rfl (tmod_within hb))
      · exact go (r := .int k (k.wrap (BitVec.ofInt k.bits (ex.d K.Φ K.ρ).int &&& BitVec.ofInt k.bits (ey.d K.Φ K.ρ).int).toNat)) (by simp [binOp, Op.intBits]) (rep_mk_int rfl (wrap_within _ _))
      · exact go (r := .bool ((ex.d K.Φ K.ρ).int == (ey.d K.Φ K.ρ).int)) (by simp [binOp, Op.intCmp]) (rep_mk_bool rfl)
      · exact go (r := .bool ((ex.d K.Φ K.ρ).int != (ey.d K.Φ K.ρ).int)) (by simp [binOp, Op.intCmp]) (rep_mk_bool rfl)
      · exact go (r := .bool (decide ((ex.d K.Φ K.ρ).int < (ey.d K.Φ K.ρ).int))) (by simp [binOp, Op.intCmp]) (rep_mk_bool rfl)
      · exact go (r := .bool (decide ((ex.d K.Φ K.ρ).int ≤ (ey.d K.Φ K.ρ).int))) (by simp [binOp, Op.intCmp]) (rep_mk_bool rfl)
      · exact go (r := .bool (decide ((ex.d K.Φ K.ρ).int > (ey.d K.Φ K.ρ).int))) (by simp [binOp, Op.intCmp]) (rep_mk_bool rfl)
      · exact go (r := .bool (decide ((ex.d K.Φ K.ρ).int ≥ (ey.d K.Φ K.ρ).int))) (by simp [binOp, Op.intCmp]) (rep_mk_bool rfl)
    · simp [RM.run] at he

theorem eff_bin_bool (h : Inv K σ gh a w) {op : BinOp} {t t' : TypeId} {x y : Operand} (ho : o.op = .binOp op t x y t') {ex ey : X}
    (hx : Rep w gh.F .bool (a.eval x) (ex.d K.Φ K.ρ)) (hy : Rep w gh.F .bool (a.eval y) (ey.d K.Φ K.ρ)) {eo : EO}
    (he : (effBin P op t (.c (.x .bool ex)) (.c (.x .bool ey))).run σ.res = some eo) : EffOk K σ P o a w eo := by
  obtain ⟨hv, hd⟩ := rep_bool hx
  obtain ⟨hu, hd'⟩ := rep_bool hy
  have go : ∀ {s : SV} {nd : List Nd} {r : Value}, (binOp op t (.bool (ex.d K.Φ K.ρ).bool) (.bool (ey.d K.Φ K.ρ).bool)).run P w = .ok r w → SV.rel K.Φ K.ρ w gh s r → EffOk K σ P o a w ⟨s, [], nd⟩ :=
    fun hr hs => EffOk.pure h (run_binOp ho hv hu guard_bool hr) hs
  unfold effBin at he
  simp only at he
  split at he
  · rename_i ut
    simp only [RM.run, Option.some.injEq] at he
    subst he
    exact go (r := .bool ((ex.d K.Φ K.ρ).bool == (ey.d K.Φ K.ρ).bool)) (by simp [binOp, run_equal_bool w t _ _ ut]) (rep_mk_bool rfl)
  · rename_i ut
    simp only [RM.run, Option.some.injEq] at he
    subst he
    exact go (r := .bool !((ex.d K.Φ K.ρ).bool == (ey.d K.Φ K.ρ).bool)) (by simp [binOp, run_equal_bool w t _ _ ut]) (rep_mk_bool rfl)
  · simp [RM.run] at he

theorem eff_bin_str (h : Inv K σ gh a w) {op : BinOp} {t t' : TypeId} {x y : Operand} (ho : o.op = .binOp op t x y t') {ex ey : X}
    (hx : Rep w gh.F .str (a.eval x) (ex.d K.Φ K.ρ)) (hy : Rep w gh.F .str (a.eval y) (ey.d K.Φ K.ρ)) {eo : EO}
    (he : (effBin P op t (.c (.x .str ex)) (.c (.x .str ey))).run σ.res = some eo) : EffOk K σ P o a w eo := by
  obtain ⟨hv, hd, _⟩ := rep_str hx
  obtain ⟨hu, hd', _⟩ := rep_str hy
  have go : ∀ {s : SV} {nd : List Nd} {r : Value}, (binOp op t (.string (ex.d K.Φ K.ρ).str) (.string (ey.d K.Φ K.ρ).str)).run P w = .ok r w → SV.rel K.Φ K.ρ w gh s r → EffOk K σ P o a w ⟨s, [], nd⟩ :=
    fun hr hs => EffOk.pure h (run_binOp ho hv hu guard_str hr) hs
  unfold effBin at he
  simp only at he
  split at he
  · simp only [RM.run, Option.some.injEq] at he
    subst he
    exact go (r := .bool ((ex.d K.Φ K.ρ).str == (ey.d K.Φ K.ρ).str)) (by rw [beq_toListBytes]; simp [binOp, Op.stringOp]) (rep_mk_bool rfl)
  · simp only [RM.run, Option.some.injEq] at he
    subst he
    exact go (r := .bool !((ex.d K.Φ K.ρ).str == (ey.d K.Φ K.ρ).str)) (by rw [beq_toListBytes]; simp [binOp, Op.stringOp]) (rep_mk_bool rfl)
  · simp [RM.run] at he

/-! ### '==' on structs -/
inductive Scal : CT → Value → Value → Bool → Prop where
  | int {k : IntKind} {n m : Int} : Scal (.int k) (.int k n) (.int k m) (n == m)
  | bool {n m : Bool} : Scal .bool (.bool n) (.bool m) (n == m)
  | str {n m : ByteArray} : Scal .str (.string n) (.string m) (n == m)
inductive ScalL : List CT → List Value → List Value → Bool → Prop where
  | nil : ScalL [] [] [] true
  | cons {ct : CT} {v u : Value} {b : Bool} {cts : List CT} {vs us : List Value} {bs : Bool} (h : Scal ct v u b) (t : ScalL cts vs us bs) : ScalL (ct :: cts) (v :: vs) (u :: us) (b && bs)

theorem ScalL.split {cts : List CT} : ∀ {cts1 : List CT} {vs us : List Value} {b : Bool}, ScalL (cts1 ++ cts) vs us b →
    ∃ vs1 vs2 us1 us2 b1 b2, vs = vs1 ++ vs2 ∧ us = us1 ++ us2 ∧ ScalL cts1 vs1 us1 b1 ∧ ScalL cts vs2 us2 b2 ∧ b = (b1 && b2)
  | [], vs, us, b, h => ⟨[], vs, [], us, true, b, rfl, rfl, .nil, h, by simp⟩
  | ct :: cts1, _, _, _, .cons h t => by
    obtain ⟨vs1, vs2, us1, us2, b1, b2, rfl, rfl, h1, h2, rfl⟩ := ScalL.split t
    exact ⟨_ :: vs1, vs2, _ :: us1, us2, _, b2, rfl, rfl, .cons h h1, h2, by simp [Bool.and_assoc]⟩
theorem ScalL.len {cts : List CT} {vs us : List Value} {b : Bool} (h : ScalL cts vs us b) : vs.length = cts.length ∧ us.length = cts.length := by
  induction h with
  | nil => exact ⟨rfl, rfl⟩
  | cons _ _ ih => simp [ih.1, ih.2]

/-- what is shown of a type: its '==' on values of these cells -/
def EqOk (P : Program) (d : Nat) (t : TypeId) (cts : List CT) : Prop :=
  ∃ ag, aggT P t = some ag ∧ (ag = false → cts.length = 1) ∧ ∀ (vs us : List Value) (b : Bool), ScalL cts vs us b → ∀ w, (Op.equalIn (d + 1) t (if ag then .agg vs.toArray else vs.headD undef) (if ag then .agg us.toArray else us.headD undef)).run P w = .ok b w

theorem eqFs_ok {get : TypeId → Option (List CT)} {d : Nat} (ih : ∀ t cts, get t = some cts → EqOk P d t cts) : ∀ (fs : List Field) (off : Nat) (cts : List CT), eqFs P get off fs = some cts →
    ∀ (xs ys : Array Value) (b : Bool), off + cts.length = xs.size → off + cts.length = ys.size → ScalL cts (xs.toList.drop off) (ys.toList.drop off) b → ∀ w, (Op.eqFields (d + 1) xs ys fs).run P w = .ok b w
  | [], off, cts, he, xs, ys, b, _, _, h, w => by
    simp only [eqFs, Option.some.injEq] at he
    subst he
    generalize xs.toList.drop off = l1 at h
    generalize ys.toList.drop off = l2 at h
    cases h
    simp [Op.eqFields]
  | f :: fs, off, cts, he, xs, ys, b, hx, hy, h, w => by
    simp only [eqFs] at he
    split at he
    · rename_i a1 hg
      split at he
      · rename_i hc
        simp only [Bool.and_eq_true, beq_iff_eq, bne_iff_ne] at hc
        obtain ⟨⟨hn, ho⟩, hs⟩ := hc
        cases hr : eqFs P get (off + a1.length) fs with
        | none => simp [hr] at he
        | some a2 =>
          simp only [hr, Option.map_some, Option.some.injEq] at he
          subst he
          obtain ⟨ag, hag, h1, heq⟩ := ih _ _ hg
          obtain ⟨vs1, vs2, us1, us2, b1, b2, e1, e2, hh1, hh2, rfl⟩ := ScalL.split h
          have hsz : sizeT P f.type = some a1.length := by
            unfold sizeEq at hs
            split at hs
            · rename_i m hm; rw [hm]; simpa using hs
            · cases hs
          have l1 := hh1.len
          have hxl : off + a1.length ≤ xs.size := by rw [← hx]; simp
          have hyl : off + a1.length ≤ ys.size := by rw [← hy]; simp
          have p1 := run_part (P := P) hsz hag xs off hxl h1 w
          have p2 := run_part (P := P) hsz hag ys off hyl h1 w
          rw [e1, ← l1.1, List.take_left'] at p1
          rw [e2, ← l1.2, List.take_left'] at p2
          have hrec := eqFs_ok ih fs (off + a1.length) a2 hr xs ys b2 (by rw [← hx]; simp [Nat.add_assoc]) (by rw [← hy]; simp [Nat.add_assoc])
            (by rw [← List.drop_drop, ← List.drop_drop, e1, e2, ← l1.1, List.drop_left', l1.1, ← l1.2, List.drop_left']; exact hh2; rfl; rfl) w
          simp only [Op.eqFields, hn, ne_eq, not_false_eq_true, if_true, ho, Sem.run_bind, p1, p2, Result.andThen_ok, heq vs1 us1 b1 hh1 w]
          cases b1 <;> simp [hrec]
          all_goals rfl
      · cases he
    · cases he

theorem eqT_ok : ∀ (fuel : Nat) (t : TypeId) (cts : List CT), eqT P fuel t = some cts → ∀ d, fuel ≤ d + 1 → EqOk P d t cts
  | 0, _, _, he, _, _ => by simp [eqT] at he
  | fuel + 1, t, cts, he, d, hd => by
    unfold eqT at he
    split at he
    · rename_i k hu
      simp only [Option.some.injEq] at he
      subst he
      refine ⟨false, by simp [aggT, hu], fun _ => rfl, fun vs us b h w => ?_⟩
      cases h with
      | cons h t => cases h; cases t; simp [Op.equalIn, run_underlying hu]
    · rename_i hu
      simp only [Option.some.injEq] at he
      subst he
      refine ⟨false, by simp [aggT, hu], fun _ => rfl, fun vs us b h w => ?_⟩
      cases h with
      | cons h t => cases h; cases t; simp [Op.equalIn, run_underlying hu]
    · rename_i hu
      simp only [Option.some.injEq] at he
      subst he
      refine ⟨false, by simp [aggT, hu], fun _ => rfl, fun vs us b h w => ?_⟩
      cases h with
      | cons h t => cases h; cases t; simp [Op.equalIn, run_underlying hu]
    · rename_i fs hu
      split at he
      · cases he
      · rename_i hst
        refine ⟨true, by simp [aggT, hu], fun h => (by cases h), fun vs us b h w => ?_⟩
        have hfs : P.fieldsOf t = fs := by simp [Program.fieldsOf, hu]
        have := run_equalIn_struct (P := P) w d t vs.toArray us.toArray (by rw [hfs]; exact hu) (by simpa using hst)
        simp only [if_true]
        rw [this, hfs]
        have l := h.len
        cases d with
        | zero =>
          have : fuel = 0 := by omega
          subst this
          cases hl : fs.toList with
          | nil =>
            rw [hl] at he
            simp only [eqFs, Option.some.injEq] at he
            subst he
            cases h
            simp [Op.eqFields]
          | cons f r => rw [hl] at he; simp [eqFs, eqT] at he
        | succ d =>
          exact eqFs_ok (fun t' cts' h' => eqT_ok fuel t' cts' h' d (by omega)) fs.toList 0 cts he vs.toArray us.toArray b (by simp [l.1]) (by simp [l.2]) (by simpa using h) w
    · cases he

theorem eqCells_ok : ∀ {cts : List CT} {cs cs' : List SC} {r : X}, eqCells cts cs cs' = some r → ∀ (vs us : List Value), relS K.Φ K.ρ w gh cs vs → relS K.Φ K.ρ w gh cs' us → ScalL cts vs us (r.d K.Φ K.ρ).bool
  | cts, cs, cs', r, he => by
    unfold eqCells at he
    split at he
    · simp only [Option.some.injEq] at he
      subst he
      intro vs us h1 h2
      cases vs with
      | nil => cases us with
        | nil => exact .nil
        | cons => exact h2.elim
      | cons => exact h1.elim
    · rename_i k cts k1 x cs k2 y cs'
      split at he
      · rename_i hk
        simp only [Bool.and_eq_true, decide_eq_true_eq] at hk
        obtain ⟨rfl, rfl⟩ := hk
        cases hr : eqCells cts cs cs' with
        | none => simp [hr] at he
        | some r' =>
          simp only [hr, Option.map_some, Option.some.injEq] at he
          subst he
          intro vs us h1 h2
          match vs, us, h1, h2 with
          | v :: vs, u :: us, h1, h2 =>
            rw [X.d_andX]
            obtain ⟨hv, _, _⟩ := rep_int h1.1
            obtain ⟨hu, _, _⟩ := rep_int h2.1
            rw [hv, hu]
            exact .cons .int (eqCells_ok hr _ _ h1.2 h2.2)
      · cases he
    · rename_i cts x cs y cs'
      cases hr : eqCells cts cs cs' with
      | none => simp [hr] at he
      | some r' =>
        simp only [hr, Option.map_some, Option.some.injEq] at he
        subst he
        intro vs us h1 h2
        match vs, us, h1, h2 with
        | v :: vs, u :: us, h1, h2 =>
          rw [X.d_andX]
          obtain ⟨hv, _⟩ := rep_bool h1.1
          obtain ⟨hu, _⟩ := rep_bool h2.1
          rw [hv, hu]
          exact .cons .bool (eqCells_ok hr _ _ h1.2 h2.2)
    · rename_i cts x cs y cs'
      cases hr : eqCells cts cs cs' with
      | none => simp [hr] at he
      | some r' =>
        simp only [hr, Option.map_some, Option.some.injEq] at he
        subst he
        intro vs us h1 h2
        match vs, us, h1, h2 with
        | v :: vs, u :: us, h1, h2 =>
          rw [X.d_andX]
          obtain ⟨hv, _, _⟩ := rep_str h1.1
          obtain ⟨hu, _, _⟩ := rep_str h2.1
          rw [hv, hu]
          exact .cons .str (eqCells_ok hr _ _ h1.2 h2.2)
    · cases he

theorem X.b_andX {x y : X} (hx : x.d K.Φ K.ρ = .b (x.d K.Φ K.ρ).bool) (hy : y.d K.Φ K.ρ = .b (y.d K.Φ K.ρ).bool) : (andX x y).d K.Φ K.ρ = .b ((andX x y).d K.Φ K.ρ).bool := by
  unfold andX
  split
  · exact hy
  · split
    · exact hx
    · simp only [X.d]
      split
      · exact hy
      · rfl

theorem eqCells_b : ∀ {cts : List CT} {cs cs' : List SC} {r : X}, eqCells cts cs cs' = some r → r.d K.Φ K.ρ = .b (r.d K.Φ K.ρ).bool
  | cts, cs, cs', r, he => by
    unfold eqCells at he
    split at he
    · simp only [Option.some.injEq] at he
      subst he
      rfl
    · rename_i k cts k1 x cs k2 y cs'
      split at he
      · cases hr : eqCells cts cs cs' with
        | none => simp [hr] at he
        | some r' =>
          simp only [hr, Option.map_some, Option.some.injEq] at he
          subst he
          exact X.b_andX rfl (eqCells_b hr)
      · cases he
    · rename_i cts x cs y cs'
      cases hr : eqCells cts cs cs' with
      | none => simp [hr] at he
      | some r' =>
        simp only [hr, Option.map_some, Option.some.injEq] at he
        subst he
        exact X.b_andX rfl (eqCells_b hr)
    · rename_i cts x cs y cs'
      cases hr : eqCells cts cs cs' with
      | none => simp [hr] at he
      | some r' =>
        simp only [hr, Option.map_some, Option.some.injEq] at he
        subst he
        exact X.b_andX rfl (eqCells_b hr)
    · cases he

theorem rep_mk_bool' {F : Nat → Prop} {d : D} (e : d = .b d.bool) : Rep w F .bool (.bool d.bool) d := by
  have : Rep w F .bool (.bool d.bool) (.b d.bool) := .bool
  rwa [← e] at this

theorem eff_bin_agg (h : Inv K σ gh a w) {op : BinOp} {t t' : TypeId} {x y : Operand} (ho : o.op = .binOp op t x y t') {cs cs' : List SC}
    (hx : SV.rel K.Φ K.ρ w gh (.agg cs) (a.eval x)) (hy : SV.rel K.Φ K.ρ w gh (.agg cs') (a.eval y)) {eo : EO}
    (he : (effBin P op t (.agg cs) (.agg cs')).run σ.res = some eo) : EffOk K σ P o a w eo := by
  obtain ⟨vs, hv, hr⟩ := hx
  obtain ⟨us, hu, hr'⟩ := hy
  unfold effBin at he
  simp only at he
  split at he
  · rename_i cts hT
    split at he
    · rename_i r hC
      split at he
      · rename_i hc
        simp only [Bool.and_eq_true, Bool.not_eq_eq_eq_not, Bool.not_true, beq_iff_eq] at hc
        have hS := eqCells_ok hC _ _ hr hr'
        obtain ⟨ag, hag, _, hEq⟩ := eqT_ok (P := P) 6 t cts hT 9999 (by omega)
        rw [hc.2, Option.some.injEq] at hag
        subst hag
        have heq : (Op.equal t (.agg vs) (.agg us)).run P w = .ok (r.d K.Φ K.ρ).bool w := by
          have := hEq _ _ _ hS w
          simpa [Op.equal, Op.maxDepth] using this
        have hg : ∀ op, (eqGuard op t x y (.agg vs) (.agg us)).run P w = .ok () w := by
          intro op
          simp only [eqGuard]
          split <;> simp [hc.1]
        split at he <;> simp only [RM.run, Option.some.injEq, reduceCtorEq] at he <;> subst he
        · exact EffOk.pure h (run_binOp ho hv hu (hg _) (r := .bool (r.d K.Φ K.ρ).bool) (by simp [binOp, heq])) (rep_mk_bool' (eqCells_b hC))
        · exact EffOk.pure h (run_binOp ho hv hu (hg _) (r := .bool !(r.d K.Φ K.ρ).bool) (by simp [binOp, heq])) (rep_mk_bool rfl)
      · simp [RM.run] at he
    · simp [RM.run] at he
  · simp [RM.run] at he

end
end Go.RV
