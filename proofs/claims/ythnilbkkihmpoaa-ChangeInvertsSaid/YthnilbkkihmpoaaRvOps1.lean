/-
  RV, part 4: the operations that only compute.
-/
import Derived.Test.YthnilbkkihmpoaaRvRel
namespace Go.RV
open Go.RowKit

def Does (P : Program) (o : Oper) (a : Act) (w : World) (R : Value → World → Prop) : Prop :=
  ∀ (Kn : Act → World → Prop) (Q : Exit → Act → World → Prop), (∀ v w', R v w' → Kn (a.put o.dst v) w') → o.wp P a w Kn Q

section
variable {P : Program} {o : Oper} {a : Act} {w w' : World} {R : Value → World → Prop}
theorem Does.val {v : Value} (h : (execOp a.eval o).run P w = .ok (.value v) w') (hR : R v w') : Does P o a w R := by
  intro Kn Q hk; unfold Oper.wp; rw [h]; exact hk v w' hR
theorem Does.skip (h : (execOp a.eval o).run P w = .ok .skip w') (hR : R undef w') : Does P o a w R := by
  intro Kn Q hk; unfold Oper.wp; rw [h]; exact hk undef w' hR
theorem Does.enter {f : FuncId} {args : Array Value} (h : (execOp a.eval o).run P w = .ok (.enter f args) w') (hc : Calls P f args w' (fun e w'' => ∃ v, e = .returned v ∧ R v w'')) : Does P o a w R := by
  intro Kn Q hk; unfold Oper.wp; rw [h]
  simp only [Oper.upon]
  refine hc.mono fun e w'' ⟨v, he, hR⟩ => ?_
  subst he
  exact hk v w'' hR
theorem Does.mono {R' : Value → World → Prop} (h : Does P o a w R) (hr : ∀ v w', R v w' → R' v w') : Does P o a w R' := fun Kn Q hk => h Kn Q fun v w' hR => hk v w' (hr v w' hR)
end

def Nd.holds (pre : FuncId → List D → Prop) (Φ : FuncId → List D → List D) (ρ : List D) : Nd → Prop
  | .c x => (x.d Φ ρ).bool = true
  | .pre f as => pre f (as.ds Φ ρ)
  | .pg g f as => (g.d Φ ρ).bool = true → pre f (as.ds Φ ρ)
  | .ct g cts e => (g.d Φ ρ).bool = true → ∃ t xs, e.d Φ ρ = .c t cts xs

/-- what is shown of an operation: its value is as told, and so is the state behind it -/
def EffOk (K : Ctx) (σ : St) (P : Program) (o : Oper) (a : Act) (w : World) (eo : EO) : Prop :=
  Does P o a w (fun v w' => ∃ gh', Inv K ⟨σ.slots, setAll σ.res eo.wr⟩ gh' a w' ∧ SV.rel K.Φ K.ρ w' gh' eo.val v)

section
variable {P : Program} {K : Ctx} {σ : St} {gh : Gh} {a : Act} {w : World} {o : Oper}

theorem EffOk.pure (h : Inv K σ gh a w) {v : Value} {s : SV} {nd : List Nd} (hr : (execOp a.eval o).run P w = .ok (.value v) w) (hs : SV.rel K.Φ K.ρ w gh s v) : EffOk K σ P o a w ⟨s, [], nd⟩ :=
  Does.val hr ⟨gh, h, hs⟩

theorem rel_x {ct : CT} {e : X} {v : Value} : SV.rel K.Φ K.ρ w gh (.c (.x ct e)) v ↔ Rep w gh.F ct v (e.d K.Φ K.ρ) := Iff.rfl

theorem rep_int {F : Nat → Prop} {k : IntKind} {v : Value} {d : D} (h : Rep w F (.int k) v d) : v = .int k d.int ∧ d = .i d.int ∧ k.min ≤ d.int ∧ d.int ≤ k.max := by
  cases h with
  | int h => exact ⟨rfl, rfl, h⟩
theorem rep_bool {F : Nat → Prop} {v : Value} {d : D} (h : Rep w F .bool v d) : v = .bool d.bool ∧ d = .b d.bool := by
  cases h with
  | bool => exact ⟨rfl, rfl⟩
theorem rep_str {F : Nat → Prop} {v : Value} {d : D} (h : Rep w F .str v d) : v = .string d.str ∧ d = .s d.str ∧ d.str.size ≤ maxLen := by
  cases h with
  | str h => exact ⟨rfl, rfl, h⟩
theorem rep_mk_int {F : Nat → Prop} {k : IntKind} {n m : Int} (e : n = m) (h : k.min ≤ n ∧ n ≤ k.max) : Rep w F (.int k) (.int k n) (.i m) := by subst e; exact .int h
theorem rep_mk_bool {F : Nat → Prop} {n m : Bool} (e : n = m) : Rep w F .bool (.bool n) (.b m) := by subst e; exact .bool

theorem eff_move (h : Inv K σ gh a w) {x : Operand} (ho : o.op = .move x ∨ o.op = .assign x) {G : X} (hG : (G.d K.Φ K.ρ).bool = true) {eo : EO}
    (he : (RM.done ⟨strip G (σ.opd x), [], []⟩).run σ.res = some eo) : EffOk K σ P o a w eo := by
  simp only [RM.run, Option.some.injEq] at he
  subst he
  refine EffOk.pure h (v := a.eval x) ?_ (strip_rel hG (h.opd x))
  rcases ho with ho | ho <;> simp [execOp, ho]

theorem X.d_andX (x y : X) : ((andX x y).d K.Φ K.ρ).bool = ((x.d K.Φ K.ρ).bool && (y.d K.Φ K.ρ).bool) := by
  unfold andX
  split
  · rename_i hx; rw [isTt_sound hx]; rfl
  · split
    · rename_i hy; rw [isTt_sound (Φ := K.Φ) (ρ := K.ρ) hy]; simp
    · simp only [X.d]; cases (x.d K.Φ K.ρ).bool <;> simp

theorem X.d_notX (x : X) : ((notX x).d K.Φ K.ρ) = .b (!(x.d K.Φ K.ρ).bool) := rfl

theorem eff_pick (h : Inv K σ gh a w) {c x y : Operand} (ho : o.op = .pick c x y) {G : X} (hG : (G.d K.Φ K.ρ).bool = true) {eo : EO}
    (he : (effPick G (strip G (σ.opd c)) (strip G (σ.opd x)) (strip G (σ.opd y))).run σ.res = some eo) : EffOk K σ P o a w eo := by
  have hc := strip_rel hG (h.opd c)
  have hx := strip_rel hG (h.opd x)
  have hy := strip_rel hG (h.opd y)
  unfold effPick at he
  split at he
  · rename_i ec hec
    split at he
    · rename_i ea eb h1 h2
      simp only [RM.run, Option.some.injEq] at he
      subst he
      rw [hec] at hc
      obtain ⟨hv, hd⟩ := rep_bool hc
      have hrun : (execOp a.eval o).run P w = .ok (.value (if (ec.d K.Φ K.ρ).bool then a.eval x else a.eval y)) w := by
        simp [execOp, ho, hv, asBool]
      refine EffOk.pure h hrun ?_
      cases hb : (ec.d K.Φ K.ρ).bool with
      | true =>
        have := strip_rel (G := andX G ec) (by rw [X.d_andX, hG, hb]; rfl) hx
        rw [h1] at this
        simpa [SV.rel, SC.rel, X.d, hb] using this
      | false =>
        have := strip_rel (G := andX G (notX ec)) (by rw [X.d_andX, hG, X.d_notX, hb]; rfl) hy
        rw [h2] at this
        simpa [SV.rel, SC.rel, X.d, hb] using this
    · simp [RM.run] at he
  · simp [RM.run] at he

theorem eff_nilCheck (h : Inv K σ gh a w) {x : Operand} (ho : o.op = .nilCheck x) {G : X} (hG : (G.d K.Φ K.ρ).bool = true) {eo : EO}
    (he : (effNilCheck (strip G (σ.opd x))).run σ.res = some eo) : EffOk K σ P o a w eo := by
  have hx := strip_rel hG (h.opd x)
  have key : ∀ {s : SV}, SV.rel K.Φ K.ρ w gh s (a.eval x) → (∃ q, a.eval x = .pointer (some q)) → EffOk K σ P o a w ⟨s, [], []⟩ := by
    intro s hs ⟨q, hq⟩
    refine EffOk.pure h (v := a.eval x) ?_ hs
    simp [execOp, ho, hq]
  unfold effNilCheck at he
  split at he <;> simp only [RM.run, Option.some.injEq, reduceCtorEq] at he <;> subst he <;> rename_i e <;> rw [e] at hx ⊢ <;> refine key hx ?_
  · obtain ⟨b, _, hv⟩ := hx; exact ⟨_, hv⟩
  · obtain ⟨g, o, len, cap, _, _, _, hv⟩ := hx; exact ⟨_, hv⟩
  · obtain ⟨g, o, _, hv⟩ := hx; exact ⟨_, hv⟩
  · exact hx.1
  · obtain ⟨b, _, _, _, hv⟩ := hx; exact ⟨_, hv⟩
  · have hx' : Rep w gh.F _ (a.eval x) _ := hx
    generalize a.eval x = v at hx'
    generalize X.d K.Φ K.ρ _ = d at hx'
    cases hx'
    exact ⟨_, rfl⟩

theorem eff_un (h : Inv K σ gh a w) {op : UnOp} {t : TypeId} {x : Operand} (ho : o.op = .unOp op t x) {G : X} (hG : (G.d K.Φ K.ρ).bool = true) {eo : EO}
    (he : (effUn op (strip G (σ.opd x))).run σ.res = some eo) : EffOk K σ P o a w eo := by
  have hx := strip_rel hG (h.opd x)
  unfold effUn at he
  split at he <;> simp only [RM.run, Option.some.injEq, reduceCtorEq] at he <;> subst he <;> rename_i e <;> rw [e] at hx
  · obtain ⟨hv, hd, _⟩ := rep_int hx
    refine EffOk.pure h (v := .int _ (IntKind.wrap _ (0 - (X.d K.Φ K.ρ _).int))) ?_ (rep_mk_int rfl (wrap_within _ _))
    simp [execOp, ho, hv, Op.unary, Op.intArith]
  · obtain ⟨hv, hd⟩ := rep_bool hx
    refine EffOk.pure h (v := .bool (!(X.d K.Φ K.ρ _).bool)) ?_ (rep_mk_bool rfl)
    simp [execOp, ho, hv, Op.unary]

theorem eff_convert (h : Inv K σ gh a w) {s d : TypeId} {x : Operand} (ho : o.op = .convert s d x) {G : X} (hG : (G.d K.Φ K.ρ).bool = true) {eo : EO}
    (he : (effConvert P s d (strip G (σ.opd x))).run σ.res = some eo) : EffOk K σ P o a w eo := by
  have hx := strip_rel hG (h.opd x)
  unfold effConvert at he
  split at he <;> simp only [RM.run, Option.some.injEq, reduceCtorEq] at he <;> subst he <;> rename_i us ud e <;> rw [e] at hx
  · obtain ⟨hv, hd, _⟩ := rep_int hx
    refine EffOk.pure h (v := .int _ (IntKind.wrap _ (X.d K.Φ K.ρ _).int)) ?_ (rep_mk_int rfl (wrap_within _ _))
    simp [execOp, ho, hv, convert, run_underlying us, run_underlying ud, Conv.intToInt]
  · obtain ⟨hv, hd, hs⟩ := rep_str hx
    refine EffOk.pure h (v := a.eval x) ?_ hx
    rw [hv]
    simp [execOp, ho, hv, convert, run_underlying us, run_underlying ud]

theorem rel_mkVal {ag : Bool} {cs : List SC} {s : SV} (h : mkVal ag cs = some s) {vs : List Value} (hr : relS K.Φ K.ρ w gh cs vs) :
    SV.rel K.Φ K.ρ w gh s (if ag then .agg vs.toArray else vs.headD undef) := by
  unfold mkVal at h
  cases ag with
  | true => simp at h; subst h; exact ⟨vs.toArray, rfl, by simpa using hr⟩
  | false =>
    simp only [Bool.false_eq_true, if_false] at h
    split at h
    · simp at h; subst h
      match vs, hr with
      | [v], hr => exact hr.1
    · simp at h

theorem mkVal_one {cs : List SC} {s : SV} (h : mkVal false cs = some s) : cs.length = 1 := by
  unfold mkVal at h
  simp only [Bool.false_eq_true, if_false] at h
  split at h
  · rfl
  · simp at h

theorem eff_extract (h : Inv K σ gh a w) {x : Operand} {i : Nat} (ho : o.op = .extract x i) {G : X} (hG : (G.d K.Φ K.ρ).bool = true) {eo : EO}
    (he : (effExtract (strip G (σ.opd x)) i).run σ.res = some eo) : EffOk K σ P o a w eo := by
  have hx := strip_rel hG (h.opd x)
  unfold effExtract at he
  split at he
  · rename_i vs e
    rw [e] at hx
    obtain ⟨us, hu, hr⟩ := hx
    split at he
    · rename_i ag cs hi
      unfold RM.val at he
      split at he
      · rename_i s hs
        simp only [RM.run, Option.some.injEq] at he
        subst he
        have key : ∀ (ps : List (Bool × List SC)) (ul : List Value) (i : Nat), relT K.Φ K.ρ w gh ps ul → ps[i]? = some (ag, cs) → ∃ u, ul[i]? = some u ∧ SV.rel K.Φ K.ρ w gh s u := by
          intro ps
          induction ps with
          | nil => intro ul i _ h; simp at h
          | cons p ps ih =>
            intro ul i hT hi
            cases ul with
            | nil => exact hT.elim
            | cons u ul =>
              cases i with
              | zero =>
                simp at hi; subst hi
                refine ⟨u, rfl, ?_⟩
                have h1 := hT.1
                cases ag with
                | true =>
                  simp only [if_true] at h1
                  obtain ⟨as, rfl, hr⟩ := h1
                  have := rel_mkVal hs hr
                  simpa using this
                | false =>
                  have := rel_mkVal hs h1
                  simpa using this
              | succ i => exact ih ul i hT.2 (by simpa using hi)
        obtain ⟨u, hui, hru⟩ := key vs us.toList i hr hi
        refine EffOk.pure h (v := u) ?_ hru
        have : us[i]? = some u := by simpa using hui
        simp [execOp, ho, hu, Instr.extract, this]
      · simp [RM.run] at he
    · simp [RM.run] at he
  · simp [RM.run] at he

theorem run_sizeT {t : TypeId} {n : Nat} (h : sizeT P t = some n) (w : World) : (sizeOf t).run P w = .ok n w := by
  unfold sizeT at h
  cases hi : P.info? t with
  | none => simp [hi] at h
  | some i => simp [hi] at h; subst h; simp [sizeOf, typeInfo, hi]

theorem run_aggT {t : TypeId} {ag : Bool} (h : aggT P t = some ag) (w : World) : (isAgg t).run P w = .ok ag w := by
  unfold aggT at h
  cases hu : P.underlying t with
  | none => simp [hu] at h
  | some d =>
    simp [hu] at h
    subst h
    simp only [isAgg, Sem.run_bind, run_underlying hu, Result.andThen_ok]
    cases d <;> rfl

theorem run_part {t : TypeId} {n : Nat} {ag : Bool} (hs : sizeT P t = some n) (ha : aggT P t = some ag) (cs : Array Value) (off : Nat) (hl : off + n ≤ cs.size) (h1 : ag = false → n = 1) (w : World) :
    (part t cs off).run P w = .ok (if ag then .agg ((cs.toList.drop off).take n).toArray else ((cs.toList.drop off).take n).headD undef) w := by
  simp only [part, Sem.run_bind, run_aggT ha, Result.andThen_ok, Sem.run_ite]
  cases ag with
  | true =>
    simp only [if_true, run_sizeT hs, Result.andThen_ok, Sem.run_pure]
    congr 2
    apply Array.ext'
    simp [Array.toList_extract]
  | false =>
    have hn := h1 rfl
    subst hn
    have hlt : off < cs.size := by omega
    have : cs[off]? = some cs[off] := by simp [hlt]
    simp only [Bool.false_eq_true, if_false, this, Sem.run_pure]
    congr 1
    rw [List.take_one]
    simp [List.head?_drop, hlt]

theorem eff_field (h : Inv K σ gh a w) {t : TypeId} {x : Operand} {f : Nat} (ho : o.op = .field t x f) {G : X} (hG : (G.d K.Φ K.ρ).bool = true) {eo : EO}
    (he : (effField P t (strip G (σ.opd x)) f).run σ.res = some eo) : EffOk K σ P o a w eo := by
  have hx := strip_rel hG (h.opd x)
  unfold effField at he
  split at he
  · rename_i fs hu
    split at he
    · rename_i fd hf
      split at he
      · rename_i n ag cs hs ha e
        rw [e] at hx
        obtain ⟨us, hv, hr⟩ := hx
        split at he
        · rename_i hle
          unfold RM.val at he
          split at he
          · rename_i s hm
            simp only [RM.run, Option.some.injEq] at he
            subst he
            have hlen := relS_length hr
            have hle' : fd.offset + n ≤ us.size := by have := Nat.le_of_ble_eq_true hle; simp at hlen; omega
            have hrr := relS_take n (relS_drop fd.offset hr)
            refine EffOk.pure h (v := _) ?_ (rel_mkVal hm hrr)
            have h1 : ag = false → n = 1 := by
              intro hag; subst hag
              have := mkVal_one hm
              simp at hlen this
              omega
            have := run_part (P := P) hs ha us fd.offset hle' h1 w
            simp [execOp, ho, hv, Instr.field, run_underlying hu, hf, asAgg, this]
          · simp [RM.run] at he
        · simp [RM.run] at he
      · simp [RM.run] at he
    · simp [RM.run] at he
  · simp [RM.run] at he

end
end Go.RV
