/-
  RV, part 19: how the parts are put to use.
-/
import Derived.Test.YthnilbkkihmpoaaRvLaw
namespace Go.RV
open Go.RowKit

section
variable {P : Program}

theorem body_some {fn : Func} (h : fn.body.isSome = true) : fn.body = some (fn.body.getD .skip) := by
  cases hb : fn.body with
  | none => rw [hb] at h; cases h
  | some c => rfl

theorem loops_n {c : Code} {Q : Code → Prop} (n : Nat) (h : (Code.loops c).length = n) (hq : ∀ k, k < n → Q ((Code.loops c).getD k .skip)) : ∀ b ∈ Code.loops c, Q b := by
  intro b hb
  obtain ⟨k, hk, rfl⟩ := List.getElem_of_mem hb
  have := hq k (by omega)
  simpa [List.getD, hk] using this

theorem loop_this {Φ : FuncId → List D → List D} {pre : FuncId → List D → Prop} {lt : Nat → Option LoopSig} {b : Code} {L0 : LoopSig} (h : (firstRegion b).bind lt = some L0) (hL : LoopMeets P Φ (pre L0.key) L0 b) : ∀ L, (firstRegion b).bind lt = some L → LoopMeets P Φ (pre L.key) L b := by
  intro L hl
  rw [h] at hl
  simp only [Option.some.injEq] at hl
  subst hl
  exact hL

def ltOf (l : List (Nat × LoopSig)) (r : Nat) : Option LoopSig := match l with
  | [] => none
  | e :: es => if e.1 == r then some e.2 else ltOf es r

theorem sgAt_all {pre : FuncId → List D → Prop} {Φ : FuncId → List D → List D} : ∀ {l : List (FuncId × Sig)}, (∀ e ∈ l, MeetsAt P e.1 e.2 pre Φ) → ∀ f S, sgOf l f = some S → MeetsAt P f S pre Φ
  | [], _, f, S, hs => by simp [sgOf] at hs
  | e :: es, h, f, S, hs => by
    unfold sgOf at hs
    split at hs
    · rename_i he
      simp only [beq_iff_eq] at he
      simp only [Option.some.injEq] at hs
      subst hs he
      exact h e (by simp)
    · exact sgAt_all (fun e he => h e (by simp [he])) f S hs
theorem Meets.at {f : FuncId} {S : Sig} {pre : FuncId → List D → Prop} {Φ : FuncId → List D → List D} (h : Meets P f S (pre f) (Φ f)) (hp : S.pc.isEmpty = true := by rfl) (hq : rowOf S = none := by rfl) : MeetsAt P f S pre Φ := .inr (.inl ⟨hp, h.p hq⟩)
theorem MeetsRow.at {f : FuncId} {S : Sig} {pre : FuncId → List D → Prop} {Φ : FuncId → List D → List D} {q : TypeId × List CT × List (Bool × List CT)} (h : MeetsRow P f S q (pre f) (Φ f)) (hp : S.pc.isEmpty = true := by rfl) (hq : rowOf S = some q := by rfl) (hf : f < 20000 := by decide) : MeetsAt P f S pre Φ := .inr (.inl ⟨hp, by unfold MeetsP; rw [hq]; exact ⟨hf, h⟩⟩)
theorem sgOf_all {pre : FuncId → List D → Prop} {Φ : FuncId → List D → List D} {l : List (FuncId × Sig)} (h : ∀ e ∈ l, Meets P e.1 e.2 (pre e.1) (Φ e.1)) (hp : l.all (fun e => e.2.pc.isEmpty && (rowOf e.2).isNone) = true := by rfl) : ∀ f S, sgOf l f = some S → MeetsAt P f S pre Φ :=
  sgAt_all fun e he => by
    have := List.all_eq_true.1 hp e he
    simp only [Bool.and_eq_true, Option.isNone_iff_eq_none] at this
    exact (h e he).at this.1 this.2

/-! ### data that fit -/
def FitsF : List CT → List D → Prop
  | [], [] => True
  | ct :: cts, d :: ds => Wf ct d ∧ FitsF cts ds
  | _, _ => False

theorem fits_of : ∀ {cts : List CT} {ds : List D}, ds.length = cts.length → (∀ (i : Nat) ct, cts[i]? = some ct → Wf ct (ds.getD i default)) → FitsF cts ds
  | [], [], _, _ => trivial
  | ct :: cts, d :: ds, hl, h => ⟨by simpa using h 0 ct rfl, fits_of (by simpa using hl) fun i ct hc => by simpa using h (i + 1) ct (by simpa using hc)⟩
  | [], _ :: _, hl, _ => by simp at hl
  | _ :: _, [], hl, _ => by simp at hl

theorem Fits.flat {ps : List (Bool × List CT)} {ds : List D} (h : Fits ps ds) : FitsF (flatCts ps) ds := fits_of h.1 h.2

theorem wf_i64 {d : D} (h : Wf (.int .i64) d) : ∃ n : Int, d = .i n ∧ -9223372036854775808 ≤ n ∧ n ≤ 9223372036854775807 := by
  cases h with
  | int h =>
    have e1 : IntKind.i64.min = -9223372036854775808 := by decide
    have e2 : IntKind.i64.max = 9223372036854775807 := by decide
    rw [e1, e2] at h
    exact ⟨_, rfl, h.1, h.2⟩
theorem wf_u8 {d : D} (h : Wf (.int .u8) d) : ∃ n : Int, d = .i n ∧ 0 ≤ n ∧ n ≤ 255 := by
  cases h with
  | int h =>
    have e1 : IntKind.u8.min = 0 := by decide
    have e2 : IntKind.u8.max = 255 := by decide
    rw [e1, e2] at h
    exact ⟨_, rfl, h.1, h.2⟩
theorem wf_bool {d : D} (h : Wf .bool d) : ∃ b : Bool, d = .b b := by
  cases h with
  | bool => exact ⟨_, rfl⟩
theorem wf_sl {e : TypeId} {cts : List CT} {d : D} (h : Wf (.sl e cts) d) : ∃ xs : List (List D), d = .l xs ∧ xs.length ≤ maxLen ∧ ∀ x ∈ xs, FitsF cts x := by
  cases h with
  | sl hm hx hr =>
    refine ⟨_, rfl, hm, fun x hxm => ?_⟩
    obtain ⟨i, hi, rfl⟩ := List.getElem_of_mem hxm
    rename_i xs
    have e : xs.getD i [] = xs[i] := by simp [List.getD, hi]
    refine fits_of (by have := hx i hi; rw [e] at this; exact this) fun j ct hj => ?_
    have := hr i j ct hi hj
    rw [e] at this
    exact this

theorem wrap_i64 (n : Int) : IntKind.i64.wrap n = (n + 9223372036854775808) % 18446744073709551616 - 9223372036854775808 := by
  have := wrap_within .i64 n
  have e1 : IntKind.i64.min = -9223372036854775808 := by decide
  have e2 : IntKind.i64.max = 9223372036854775807 := by decide
  rw [e1, e2] at this
  simp only [IntKind.wrap, IntKind.signed, IntKind.bits] at this ⊢
  first | (simp; omega) | (split <;> omega) | skip

/-! ### what a run gives, where it asks for nothing -/
def VT.val (Φ : FuncId → List D → List D) (ρ : List D) : VT → List D
  | .ret as => as.ds Φ ρ
  | .need _ _ t => VT.val Φ ρ t
  | .ite c x y => if (c.d Φ ρ).bool = true then VT.val Φ ρ x else VT.val Φ ρ y
  | .lt c k t => VT.val Φ (ρ ++ takeD k (c.outs Φ ρ)) t
  | .bad => []
def VT.asks (Φ : FuncId → List D → List D) (ρ : List D) (pre : FuncId → List D → Prop) : VT → Prop
  | .ret _ => True
  | .need g n t => ((g.d Φ ρ).bool = true → n.holds pre Φ ρ) ∧ VT.asks Φ ρ pre t
  | .ite c x y => if (c.d Φ ρ).bool = true then VT.asks Φ ρ pre x else VT.asks Φ ρ pre y
  | .lt c k t => VT.asks Φ (ρ ++ takeD k (c.outs Φ ρ)) pre t
  | .bad => False
theorem VT.ok_val {Φ : FuncId → List D → List D} {pre : FuncId → List D → Prop} : ∀ {t : VT} {ρ : List D}, t.asks Φ ρ pre → t.ok Φ ρ pre (fun out => out = t.val Φ ρ)
  | .ret _, _, _ => rfl
  | .need _ _ _, _, h => ⟨h.1, VT.ok_val h.2⟩
  | .ite c x y, ρ, h => by
    unfold VT.asks at h
    unfold VT.ok
    split
    · rename_i hc
      rw [if_pos hc] at h
      have e : (VT.ite c x y).val Φ ρ = x.val Φ ρ := by simp only [VT.val]; rw [if_pos hc]
      rw [e]
      exact VT.ok_val h
    · rename_i hc
      rw [if_neg hc] at h
      have e : (VT.ite c x y).val Φ ρ = y.val Φ ρ := by simp only [VT.val]; rw [if_neg hc]
      rw [e]
      exact VT.ok_val h
  | .lt c k t, ρ, h => by
    unfold VT.asks at h
    unfold VT.ok
    exact VT.ok_val h
  | .bad, _, h => h.elim

/-- no need but calls of functions that ask for nothing -/
def VT.easy : VT → List FuncId → Bool
  | .ret _, _ => true
  | .need _ (.pre f _) t, l => l.contains f && t.easy l
  | .need _ _ _, _ => false
  | .ite _ x y, l => x.easy l && y.easy l
  | .lt _ _ t, l => t.easy l
  | .bad, _ => false
theorem VT.asks_easy {Φ : FuncId → List D → List D} {pre : FuncId → List D → Prop} {l : List FuncId} (hl : ∀ f ∈ l, ∀ as, pre f as) : ∀ {t : VT} {ρ : List D}, t.easy l = true → t.asks Φ ρ pre
  | .ret _, _, _ => trivial
  | .need g (.pre f as) t, ρ, h => by
    simp only [VT.easy, Bool.and_eq_true] at h
    exact ⟨fun _ => hl f (by simpa using h.1) _, VT.asks_easy hl h.2⟩
  | .need _ (.c _) _, _, h => by simp [VT.easy] at h
  | .need _ (.pg _ _ _) _, _, h => by simp [VT.easy] at h
  | .need _ (.ct _ _ _) _, _, h => by simp [VT.easy] at h
  | .ite c x y, ρ, h => by
    simp only [VT.easy, Bool.and_eq_true] at h
    unfold VT.asks
    split
    · exact VT.asks_easy hl h.1
    · exact VT.asks_easy hl h.2
  | .lt c k t, ρ, h => by
    unfold VT.asks
    exact VT.asks_easy (t := t) hl h
  | .bad, _, h => by simp [VT.easy] at h

def tabOf (l : List (FuncId × (List D → List D))) (f : FuncId) : List D → List D := match l with
  | [] => fun _ => []
  | e :: es => if e.1 == f then e.2 else tabOf es f

theorem Meets.to {f : FuncId} {S : Sig} {pre pre' : List D → Prop} {fn fn' : List D → List D} (h : Meets P f S pre fn) (hc : ∀ ds, Fits S.ps ds → pre' ds → pre ds ∧ fn ds = fn' ds) : Meets P f S pre' fn' := by
  by_cases hf : f < 20000
  · have h := h.fn hf
    refine MeetsFn.meets ⟨h.1, fun w F vs ds hF ha hp => ?_⟩ hf
    obtain ⟨h1, h2⟩ := hc ds (args_fits ha) hp
    have := h.2 w F vs ds hF ha h1
    rw [h2] at this
    exact this
  · have h := h.dyn hf
    refine MeetsDyn.meets (fun w F v vs ds hF ha hp => ?_) hf
    obtain ⟨h1, h2⟩ := hc ds (args_fits ha) hp
    have := h w F v vs ds hF ha h1
    rw [h2] at this
    exact this

/-- the calls of function values, each of which is one of functions with contracts -/
theorem meets_dyn {k : FuncId} (hk : ¬ k < 20000) {S : Sig} {ps : List (Bool × List CT)} (hps : S.ps = (false, [.clo]) :: ps) {pre : List D → Prop} {fn : List D → List D}
    (h : ∀ d ds, Fits S.ps (d :: ds) → pre (d :: ds) → ∃ f cts xs Sf pf ff, d = .c f cts xs ∧ f < 20000 ∧ Meets P f Sf pf ff ∧ Sf.ps = ps ++ cts.map (fun c => (false, [c])) ∧ Sf.rs = S.rs ∧ pf (ds ++ xs) ∧ ff (ds ++ xs) = fn (d :: ds)) : Meets P k S pre fn := by
  refine MeetsDyn.meets (fun w F v vs ds0 hF ha hp => ?_) hk
  have hfit := args_fits ha
  rw [hps] at ha
  obtain ⟨d1, ds, rfl, ⟨us, hus, hrep⟩, h2⟩ := ha
  simp only [Bool.false_eq_true, if_false] at hus
  subst hus
  match d1, hrep with
  | [d], ⟨hr, _⟩ =>
    obtain ⟨f, cts, xs, Sf, pf, ff, hd, hlt, hM, h3, h4, h5, h6⟩ := h d ds hfit hp
    subst hd
    cases hr with
    | clo hv hn hr =>
      rename_i vs'
      obtain ⟨m1, m2⟩ := hM.fn hlt
      refine ⟨f, vs', rfl, fun w => m1 _ w, ?_⟩
      have hcap : ∀ (cts : List CT) (us : List Value) (xs : List D), us.length = cts.length → xs.length = cts.length → (∀ j ct, cts[j]? = some ct → Rep w F ct (us.getD j undef) (xs.getD j default)) → ArgsRep w F (cts.map fun c => (false, [c])) us xs := by
        intro cts
        induction cts with
        | nil =>
          intro us xs h1 h2 _
          cases us with
          | nil => exact List.length_eq_zero_iff.1 h2
          | cons => simp at h1
        | cons c cts ih =>
          intro us xs h1 h2 h3
          cases us with
          | nil => simp at h1
          | cons u us =>
            cases xs with
            | nil => simp at h2
            | cons x xs =>
              refine ⟨[x], xs, rfl, ⟨[u], by simp, by simpa using h3 0 c rfl, trivial⟩, ih us xs (by simpa using h1) (by simpa using h2) fun j ct hj => by simpa using h3 (j + 1) ct (by simpa using hj)⟩
      have happ : ∀ (ps ps' : List (Bool × List CT)) (vs vs' : List Value) (ds ds' : List D), ArgsRep w F ps vs ds → ArgsRep w F ps' vs' ds' → ArgsRep w F (ps ++ ps') (vs ++ vs') (ds ++ ds') := by
        intro ps
        induction ps with
        | nil =>
          intro ps' vs vs' ds ds' h1 h2
          cases vs with
          | nil => have : ds = [] := h1; subst this; exact h2
          | cons => exact h1.elim
        | cons p ps ih =>
          intro ps' vs vs' ds ds' h1 h2
          cases vs with
          | nil => exact h1.elim
          | cons v vs =>
            obtain ⟨d1, d2, rfl, h3, h4⟩ := h1
            exact ⟨d1, d2 ++ ds', by rw [List.append_assoc], h3, ih ps' vs vs' d2 ds' h4 h2⟩
      have hA : ArgsRep w F Sf.ps (vs ++ vs'.toList) (ds ++ xs) := by
        rw [h3]
        refine happ _ _ _ _ _ _ h2 (hcap cts vs'.toList xs (by simpa using hv) hn fun j ct hj => ?_)
        have := hr j ct hj
        have e : vs'.toList.getD j undef = vs'.getD j undef := by simp [List.getD, Array.getD_eq_getD_getElem?]
        rw [e]
        exact this
      have hc := m2 w F _ _ hF hA h5
      have e : (vs ++ vs'.toList).toArray = vs.toArray ++ vs' := by apply Array.ext'; simp
      rw [e, h6, h4] at hc
      exact hc

/-! ### own results, taken as data -/
def plainCT : CT → CT
  | .osl e cts => .sl e cts
  | ct => ct
def plainSig (S : Sig) : Sig := { S with rs := S.rs.map fun r => (r.1, r.2.map plainCT) }
theorem RepLO.data {w : World} {F F' : Nat → Prop} (hF : ∀ b, F b → F' b) : ∀ {cts : List CT} {vs : List Value} {ds : List D} {us : List Value}, RepLO w F cts vs ds us → (∀ u ∈ us, ∀ b, ownB u = some b → F' b) → RepL w F' (cts.map plainCT) vs ds
  | [], [], [], [], _, _ => trivial
  | .osl e cts :: cs, v :: vs, d :: ds, u :: us, h, hu => by
    obtain ⟨rfl, ⟨xs, vals, rfl, ho, hr⟩, h3⟩ := h
    exact ⟨own_rep ho hr hF (hu v (by simp)), RepLO.data hF h3 fun u hm => hu u (by simp [hm])⟩
  | .osl e cts :: cs, v :: vs, d :: ds, [], h, _ => by cases h.1
  | .int _ :: cs, v :: vs, d :: ds, us, h, hu => ⟨h.1.mono hF fun _ _ => rfl, RepLO.data hF h.2 hu⟩
  | .bool :: cs, v :: vs, d :: ds, us, h, hu => ⟨h.1.mono hF fun _ _ => rfl, RepLO.data hF h.2 hu⟩
  | .str :: cs, v :: vs, d :: ds, us, h, hu => ⟨h.1.mono hF fun _ _ => rfl, RepLO.data hF h.2 hu⟩
  | .sl _ _ :: cs, v :: vs, d :: ds, us, h, hu => ⟨h.1.mono hF fun _ _ => rfl, RepLO.data hF h.2 hu⟩
  | .pt _ :: cs, v :: vs, d :: ds, us, h, hu => ⟨h.1.mono hF fun _ _ => rfl, RepLO.data hF h.2 hu⟩
  | .clo :: cs, v :: vs, d :: ds, us, h, hu => ⟨h.1.mono hF fun _ _ => rfl, RepLO.data hF h.2 hu⟩
  | .ifc :: cs, v :: vs, d :: ds, us, h, hu => ⟨h.1.mono hF fun _ _ => rfl, RepLO.data hF h.2 hu⟩
theorem ShRepO.data {w : World} {F F' : Nat → Prop} (hF : ∀ b, F b → F' b) {r : Bool × List CT} {v : Value} {ds : List D} {us : List Value} (h : ShRepO w F r v ds us) (hu : ∀ u ∈ us, ∀ b, ownB u = some b → F' b) : ShRep w F' (r.1, r.2.map plainCT) v ds :=
  let ⟨vs, h1, h2⟩ := h
  ⟨vs, h1, h2.data hF hu⟩
theorem ArgsRepO.data {w : World} {F F' : Nat → Prop} (hF : ∀ b, F b → F' b) : ∀ {rs : List (Bool × List CT)} {vs : List Value} {ds : List D} {us : List Value}, ArgsRepO w F rs vs ds us → (∀ u ∈ us, ∀ b, ownB u = some b → F' b) → ArgsRep w F' (rs.map fun r => (r.1, r.2.map plainCT)) vs ds
  | [], [], _, _, h, _ => h.1
  | r :: rs, v :: vs, _, _, h, hu => by
    obtain ⟨d1, d2, u1, u2, rfl, rfl, h1, h2⟩ := h
    exact ⟨d1, d2, rfl, h1.data hF fun u hm => hu u (by simp [hm]), ArgsRepO.data hF h2 fun u hm => hu u (by simp [hm])⟩
theorem ResRepO.data {w : World} {F F' : Nat → Prop} (hF : ∀ b, F b → F' b) {rs : List (Bool × List CT)} {v : Value} {ds : List D} {us : List Value} (h : ResRepO w F rs v ds us) (hu : ∀ u ∈ us, ∀ b, ownB u = some b → F' b) : ResRep w F' (rs.map fun r => (r.1, r.2.map plainCT)) v ds := by
  match rs, h with
  | [], h => exact h.1
  | [r], h => exact ShRepO.data hF h hu
  | r1 :: r2 :: rs, ⟨vs, e, h⟩ => exact ⟨vs, e, ArgsRepO.data hF h hu⟩
theorem Meets.plain {P : Program} {f : FuncId} {S : Sig} {pre : List D → Prop} {fn : List D → List D} (h : Meets P f S pre fn) (hlt : f < 20000 := by decide) : Meets P f (plainSig S) pre fn := by
  obtain ⟨h1, h2⟩ := h.fn hlt
  refine MeetsFn.meets ⟨h1, fun w F vs ds hF hA hp => (h2 w F vs ds hF hA hp).mono fun e w' ⟨v, F', us, he, hres, hnew, hF1, hF2, hB⟩ => ?_⟩ hlt
  refine ⟨v, fun b => F' b ∨ ∃ u ∈ us, ownB u = some b, [], he, (ResRepO.data (fun b hb => .inl hb) hres fun u hu b hb => .inr ⟨u, hu, hb⟩).toO, ownNew_nil, fun b hb => .inl (hF1 b hb), fun b hb => ?_, hB⟩
  rcases hb with hb | ⟨u, hu, hb⟩
  · exact hF2 b hb
  · obtain ⟨n1, n2, _⟩ := hnew.1 u hu b hb
    exact ⟨.inr n1, n2⟩

theorem meets_easy {sgl : List (FuncId × Sig)} {Φ : FuncId → List D → List D} {lt : Nat → Option LoopSig} (hmx : P.follows .mixedOrders = true) (hM : ∀ e ∈ sgl, Meets P e.1 e.2 (fun _ => True) (Φ e.1)) {f : FuncId} {fn : Func} {c : Code} {S : Sig}
    (hf : P.funcs[f]? = some fn) (hb : fn.body = some c) (hname : (fn.name == "runtime.NumGoroutine") = false) (hk : (Code.loops c).length = 0) {vt : VT} (hvt : (fnVT P (sgOf sgl) lt S fn c).slim (S.ps.map fun p => p.2.length).sum [] = vt) (he : vt.easy (sgl.map (·.1)) = true) (hlt : f < 20000 := by decide) (hpc : sgl.all (fun e => e.2.pc.isEmpty && (rowOf e.2).isNone) = true := by rfl) :
    Meets P f S (fun _ => True) (fun ρ => vt.val Φ ρ) :=
  meets_of_vt (hlt := hlt) (pre := fun _ _ => True) hmx (sgOf_all (pre := fun _ _ => True) hM hpc) hf hb hname (loops_n 0 hk fun k hk => by omega) hvt fun ds _ _ => VT.ok_val (VT.asks_easy (fun _ _ _ => trivial) he)

end
end Go.RV
