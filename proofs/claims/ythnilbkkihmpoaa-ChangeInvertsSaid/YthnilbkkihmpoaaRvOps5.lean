/-
  RV, part 9: contracts of functions as functions of data; calls.
-/
import Derived.Test.YthnilbkkihmpoaaRvOps4
namespace Go.RV
open Go.RowKit

def RepL (w : World) (F : Nat → Prop) : List CT → List Value → List D → Prop
  | [], [], [] => True
  | ct :: cts, v :: vs, d :: ds => Rep w F ct v d ∧ RepL w F cts vs ds
  | _, _, _ => False
def ShRep (w : World) (F : Nat → Prop) (sh : Bool × List CT) (v : Value) (ds : List D) : Prop :=
  ∃ us : List Value, (if sh.1 then v = .agg us.toArray else us = [v]) ∧ RepL w F sh.2 us ds
def ArgsRep (w : World) (F : Nat → Prop) : List (Bool × List CT) → List Value → List D → Prop
  | [], [], ds => ds = []
  | sh :: shs, v :: vs, ds => ∃ d1 d2, ds = d1 ++ d2 ∧ ShRep w F sh v d1 ∧ ArgsRep w F shs vs d2
  | _, _, _ => False
def ResRep (w : World) (F : Nat → Prop) (rs : List (Bool × List CT)) (v : Value) (ds : List D) : Prop := match rs with
  | [] => v = undef
  | [r] => ShRep w F r v ds
  | rs => ∃ us : Array Value, v = .tuple us ∧ ArgsRep w F rs us.toList ds

/-- a row that the caller may go on writing -/
def OwnD (w : World) (F : Nat → Prop) (e : TypeId) (cts : List CT) (v : Value) (d : D) : Prop :=
  ∃ xs vals, d = .l xs ∧ OwnR w e cts.length v xs.length vals ∧ RowRep w F cts xs vals
/-- results: data, and rows 'us' of the caller's own -/
def RepLO (w : World) (F : Nat → Prop) : List CT → List Value → List D → List Value → Prop
  | [], [], [], [] => True
  | .osl e cts :: cs, v :: vs, d :: ds, u :: us => v = u ∧ OwnD w F e cts v d ∧ RepLO w F cs vs ds us
  | ct :: cs, v :: vs, d :: ds, us => Rep w F ct v d ∧ RepLO w F cs vs ds us
  | _, _, _, _ => False
def ShRepO (w : World) (F : Nat → Prop) (sh : Bool × List CT) (v : Value) (ds : List D) (us : List Value) : Prop :=
  ∃ vs : List Value, (if sh.1 then v = .agg vs.toArray else vs = [v]) ∧ RepLO w F sh.2 vs ds us
def ArgsRepO (w : World) (F : Nat → Prop) : List (Bool × List CT) → List Value → List D → List Value → Prop
  | [], [], ds, us => ds = [] ∧ us = []
  | sh :: shs, v :: vs, ds, us => ∃ d1 d2 u1 u2, ds = d1 ++ d2 ∧ us = u1 ++ u2 ∧ ShRepO w F sh v d1 u1 ∧ ArgsRepO w F shs vs d2 u2
  | _, _, _, _ => False
def ResRepO (w : World) (F : Nat → Prop) (rs : List (Bool × List CT)) (v : Value) (ds : List D) (us : List Value) : Prop := match rs with
  | [] => v = undef ∧ us = []
  | [r] => ShRepO w F r v ds us
  | rs => ∃ vs : Array Value, v = .tuple vs ∧ ArgsRepO w F rs vs.toList ds us
/-- rows of the caller's own lie in new blocks that nothing else meets -/
def OwnNew (w w' : World) (F : Nat → Prop) (us : List Value) : Prop :=
  (∀ u ∈ us, ∀ b, ownB u = some b → w.heap.size ≤ b ∧ b < w'.heap.size ∧ ¬ F b) ∧ us.Pairwise fun u u' => ∀ b, ownB u = some b → ownB u' ≠ some b

/-- what a call gives: what represents 'out'; of what was there nothing turns -/
def MPost (F : Nat → Prop) (w : World) (rs : List (Bool × List CT)) (out : List D) (e : Ending) (w' : World) : Prop :=
  ∃ v F' us, e = .returned v ∧ ResRepO w' F' rs v out us ∧ OwnNew w w' F' us ∧ (∀ b, F b → F' b) ∧ (∀ b, F' b → (F b ∨ w.heap.size ≤ b) ∧ b < w'.heap.size) ∧ Below w.heap.size w w'

/-- THE CONTRACT OF A FUNCTION: called with arguments that represent the data ds, which meet 'pre', it returns what represents 'fn ds'; of what was there nothing turns. -/
def MeetsFn (P : Program) (f : FuncId) (S : Sig) (pre : List D → Prop) (fn : List D → List D) : Prop :=
  (∀ (args : Array Value) (w : World), (callFunc f args).run P w = .ok (.enter f args) w) ∧
  ∀ (w : World) (F : Nat → Prop) (vs : List Value) (ds : List D), (∀ b, F b → b < w.heap.size) → ArgsRep w F S.ps vs ds → pre ds → Calls P f vs.toArray w (MPost F w S.rs (fn ds))

/-- the contract of the calls of function values of a type: the value comes first -/
def MeetsDyn (P : Program) (S : Sig) (pre : List D → Prop) (fn : List D → List D) : Prop :=
  ∀ (w : World) (F : Nat → Prop) (v : Value) (vs : List Value) (ds : List D), (∀ b, F b → b < w.heap.size) → ArgsRep w F S.ps (v :: vs) ds → pre ds →
    ∃ f vs', v = .func (.func f) #[] vs' ∧ (∀ w, (callFunc f (vs.toArray ++ vs')).run P w = .ok (.enter f (vs.toArray ++ vs')) w) ∧ Calls P f (vs.toArray ++ vs') w (MPost F w S.rs (fn ds))

def Meets (P : Program) (f : FuncId) (S : Sig) (pre : List D → Prop) (fn : List D → List D) : Prop :=
  if f < 20000 then MeetsFn P f S pre fn else MeetsDyn P S pre fn
theorem Meets.fn {P : Program} {f : FuncId} {S : Sig} {pre : List D → Prop} {fn : List D → List D} (h : Meets P f S pre fn) (hf : f < 20000) : MeetsFn P f S pre fn := by
  unfold Meets at h; rw [if_pos hf] at h; exact h
theorem Meets.dyn {P : Program} {f : FuncId} {S : Sig} {pre : List D → Prop} {fn : List D → List D} (h : Meets P f S pre fn) (hf : ¬ f < 20000) : MeetsDyn P S pre fn := by
  unfold Meets at h; rw [if_neg hf] at h; exact h
theorem MeetsFn.meets {P : Program} {f : FuncId} {S : Sig} {pre : List D → Prop} {fn : List D → List D} (h : MeetsFn P f S pre fn) (hf : f < 20000) : Meets P f S pre fn := by
  unfold Meets; rw [if_pos hf]; exact h
theorem MeetsDyn.meets {P : Program} {f : FuncId} {S : Sig} {pre : List D → Prop} {fn : List D → List D} (h : MeetsDyn P S pre fn) (hf : ¬ f < 20000) : Meets P f S pre fn := by
  unfold Meets; rw [if_neg hf]; exact h

/-- THE CONTRACT OF A FUNCTION THAT CHANGES A ROW of its caller's own: called with a row that represents xs it leaves, and hands back, one that represents what 'fn' says. -/
def MeetsRow (P : Program) (f : FuncId) (S : Sig) (q : TypeId × List CT × List (Bool × List CT)) (pre : List D → Prop) (fn : List D → List D) : Prop :=
  (∀ (args : Array Value) (w : World), (callFunc f args).run P w = .ok (.enter f args) w) ∧
  ∀ (w : World) (F : Nat → Prop) (v : Value) (vs : List Value) (xs : List (List D)) (vals : List Value) (ds : List D), (∀ b, F b → b < w.heap.size) → OwnR w q.1 q.2.1.length v xs.length vals → RowRep w F q.2.1 xs vals →
    (∀ b, ownB v = some b → ¬ F b ∧ b < w.heap.size) → ArgsRep w F q.2.2 vs ds → pre (.l xs :: ds) →
    Calls P f (v :: vs).toArray w fun e w' => ∃ v' xs' vals', fn (.l xs :: ds) = [.l xs'] ∧ OwnR w' q.1 q.2.1.length v' xs'.length vals' ∧ RowRep w F q.2.1 xs' vals' ∧ w.grownBy w' (ownB v) ∧
      (∀ b, ownB v' = some b → ownB v = some b ∨ (b = w.heap.size ∧ b < w'.heap.size)) ∧ (if S.rs.isEmpty then e = .returned undef ∧ v' = v else e = .returned v')
/-- by what a function is: its contract -/
def MeetsP (P : Program) (f : FuncId) (S : Sig) (pre : List D → Prop) (fn : List D → List D) : Prop := match rowOf S with
  | some q => f < 20000 ∧ MeetsRow P f S q pre fn
  | none => Meets P f S pre fn
theorem MeetsP.row {P : Program} {f : FuncId} {S : Sig} {pre : List D → Prop} {fn : List D → List D} (h : MeetsP P f S pre fn) {q : TypeId × List CT × List (Bool × List CT)} (hq : rowOf S = some q) : MeetsRow P f S q pre fn := by
  unfold MeetsP at h; rw [hq] at h; exact h.2
theorem MeetsP.of {P : Program} {f : FuncId} {S : Sig} {pre : List D → Prop} {fn : List D → List D} (h : MeetsP P f S pre fn) (hq : rowOf S = none) : Meets P f S pre fn := by
  unfold MeetsP at h; rw [hq] at h; exact h
theorem Meets.p {P : Program} {f : FuncId} {S : Sig} {pre : List D → Prop} {fn : List D → List D} (h : Meets P f S pre fn) (hq : rowOf S = none) : MeetsP P f S pre fn := by
  unfold MeetsP; rw [hq]; exact h

section
variable {P : Program} {K : Ctx} {σ : St} {gh : Gh} {a : Act} {w : World} {o : Oper}

theorem RepL.mono {w' : World} {F F' : Nat → Prop} (hF : ∀ b, F b → F' b) (hw : ∀ b, F b → w'.heap[b]? = w.heap[b]?) : ∀ {cts : List CT} {vs : List Value} {ds : List D}, RepL w F cts vs ds → RepL w' F' cts vs ds
  | [], [], [], _ => trivial
  | _ :: _, _ :: _, _ :: _, h => ⟨h.1.mono hF hw, RepL.mono hF hw h.2⟩

theorem ShRep.mono {w' : World} {F F' : Nat → Prop} (hF : ∀ b, F b → F' b) (hw : ∀ b, F b → w'.heap[b]? = w.heap[b]?) {sh : Bool × List CT} {v : Value} {ds : List D} (h : ShRep w F sh v ds) : ShRep w' F' sh v ds :=
  let ⟨us, h1, h2⟩ := h; ⟨us, h1, h2.mono hF hw⟩

theorem ArgsRep.mono {w' : World} {F F' : Nat → Prop} (hF : ∀ b, F b → F' b) (hw : ∀ b, F b → w'.heap[b]? = w.heap[b]?) : ∀ {shs : List (Bool × List CT)} {vs : List Value} {ds : List D}, ArgsRep w F shs vs ds → ArgsRep w' F' shs vs ds
  | [], [], _, h => h
  | _ :: _, _ :: _, _, ⟨d1, d2, e, h1, h2⟩ => ⟨d1, d2, e, h1.mono hF hw, ArgsRep.mono hF hw h2⟩

/-- a row of the run's own, read as data, its block among those that are met -/
theorem own_rep {e ety : TypeId} {cts : List CT} {v : Value} {xs : List (List D)} {vals : List Value} {F F' : Nat → Prop} (h : OwnR w ety cts.length v xs.length vals) (hr : RowRep w F cts xs vals) (hF : ∀ b, F b → F' b)
    (hb : ∀ b, ownB v = some b → F' b) : Rep w F' (.sl e cts) v (.l xs) := by
  rcases h with ⟨_, h0, q, rfl⟩ | ⟨g, cap, cur, rfl, h0, h1, hg, hl, hm, hs, ht⟩
  · have : xs = [] := List.length_eq_zero_iff.1 h0
    subst this
    exact .nil
  · obtain ⟨c, rfl⟩ : ∃ c, cap = c + 1 := ⟨cap - 1, by omega⟩
    refine .sl (hb g rfl) hg hl hm (by rw [hs]; omega) rfl (fun i hi => (hr i hi).1) fun i j ct hi hj => ?_
    have h3 := (hr i hi).2 j ct hj
    have hjl : j < cts.length := (List.getElem?_eq_some_iff.1 hj).1
    have hb1 := mul_lt_bound (j := j + 1) (m := cts.length) hi (by omega)
    have e3 : vals.getD (i * cts.length + j) undef = cur.getD (0 + i * cts.length + j) undef := by
      rw [← ht, List.getD, List.getElem?_take, if_pos (by omega)]
      simp [Array.getD_eq_getD_getElem?]
    rw [e3] at h3
    exact h3.mono hF fun _ _ => rfl

/-- a write that freezes what is there -/
def FreezeOf (K : Ctx) (σ : St) (p : Nat × Res) : Prop :=
  ∃ x, σ.has p.1 x ∧ x.on K ∧ ((∃ ety cells, x.k = .box ety cells false ∧ p.2 = ⟨x.g, .box ety cells true⟩) ∨ (∃ ety cts content ver, x.k = .row ety cts content ver false ∧ p.2 = ⟨x.g, .row ety cts content ver true⟩))

theorem freeze_one (h : Inv K σ gh a w) {p : Nat × Res} (hp : FreezeOf K σ p) :
    ∃ gh', Inv K ⟨σ.slots, σ.res.set p.1 (some p.2)⟩ gh' a w ∧ gh.le gh' ∧ gh'.β = gh.β ∧ gh'.rv = gh.rv ∧ gh'.vr = gh.vr ∧ (∀ b, gh'.F b → gh.F b ∨ ∃ x, σ.has p.1 x ∧ x.on K ∧ x.k.live gh p.1 = some b) ∧
      (∀ x b, σ.has p.1 x → x.k.live gh p.1 = some b → gh'.F b) := by
  obtain ⟨x, hx, hon, hk⟩ := hp
  have hlt : p.1 < σ.res.length := (List.getElem?_eq_some_iff.1 hx).1
  let gh' : Gh := { gh with F := fun b => gh.F b ∨ x.k.live gh p.1 = some b }
  have hle : gh.le gh' := ⟨fun _ _ h => h, fun _ => Nat.le_refl _, fun _ _ _ => rfl, fun _ h => .inl h⟩
  refine ⟨gh', ?_, hle, rfl, rfl, rfl, fun b hb => ?_, fun y b hy hl => ?_⟩
  · have hlive : p.2.k.live gh' p.1 = none := by
      rcases hk with ⟨_, _, _, e⟩ | ⟨_, _, _, _, _, e⟩ <;> rw [e] <;> rfl
    have hpon : p.2.on K := by rcases hk with ⟨_, _, _, e⟩ | ⟨_, _, _, _, _, e⟩ <;> rw [e] <;> exact hon
    refine h.step (T := fun q => q = p.1) ⟨hle, rfl, rfl, rfl, Nat.le_refl _, fun q hq => ⟨by simp [Ne.symm hq], rfl, rfl, rfl⟩, fun _ _ _ => rfl, fun b hb => ?_, fun b hb => ?_,
      fun q y hT hy hony => ?_, fun q y b hT hy hony hl => ?_, fun q y q' y' c hT hT' _ _ _ _ _ _ => hT.trans hT'.symm, fun q b hT hb => ?_, fun q hT hr => ?_⟩
    · rcases hb with hb | hb
      · exact h.Flt b hb
      · exact (h.own _ x b hx hon hb).2.2
    · rcases hb with hb | hb
      · exact .inl hb
      · exact .inr ⟨(h.own _ x b hx hon hb).1, fun r2 x2 hT2 hx2 hon2 hl2 => hT2 (h.inj r2 x2 p.1 x b hx2 hon2 hx hon hl2 hb)⟩
    · subst hT
      rw [getElem?_set_has hlt] at hy
      simp only [Option.some.injEq] at hy
      subst hy
      have hok := h.res _ x hx hon
      rcases hk with ⟨ety, cells, hk, e⟩ | ⟨ety, cts, content, ver, hk, e⟩
      · rw [hk] at hok
        obtain ⟨b, cur, h1, h2, h3, h4⟩ := hok
        rw [e]
        exact ⟨b, cur, h1, h2, relS_mono hle (fun _ _ => rfl) h3, fun _ => .inr (by rw [hk]; exact h1)⟩
      · rw [hk] at hok
        obtain ⟨h1, h2, h3, xs, vals, h4, h5, h6⟩ := hok
        rw [e]
        refine ⟨h1, h2, h3, ?_⟩
        simp only [if_true]
        rw [h4]
        exact own_rep h5 h6 hle.F fun b hb => .inr (by rw [hk]; exact hb)
    · subst hT
      rw [getElem?_set_has hlt] at hy
      simp only [Option.some.injEq] at hy
      subst hy
      rw [hlive] at hl
      cases hl
    · subst hT
      exact ⟨_, getElem?_set_has hlt, hpon⟩
    · subst hT
      exact ⟨_, getElem?_set_has hlt, hpon⟩
  · rcases hb with hb | hb
    · exact .inl hb
    · exact .inr ⟨x, hx, hon, hb⟩
  · unfold St.has at hx hy
    rw [hx] at hy
    simp only [Option.some.injEq] at hy
    subst hy
    exact .inr hl

/-- writes that freeze, one after the other -/
theorem freeze_all : ∀ {wr : List (Nat × Res)} {σ : St} {gh : Gh} {w : World}, Inv K σ gh a w → (∀ p ∈ wr, FreezeOf K σ p) →
    ∃ gh', Inv K ⟨σ.slots, setAll σ.res wr⟩ gh' a w ∧ gh.le gh' ∧ gh'.β = gh.β ∧ gh'.rv = gh.rv ∧ gh'.vr = gh.vr ∧ (∀ p ∈ wr, ∀ x b, σ.has p.1 x → x.k.live gh p.1 = some b → gh'.F b) ∧
      (∀ b, gh'.F b → gh.F b ∨ ∃ r x, σ.has r x ∧ x.on K ∧ x.k.live gh r = some b)
  | [], σ, gh, w, h, _ => ⟨gh, h, Gh.le.refl gh, rfl, rfl, rfl, by simp, fun b hb => .inl hb⟩
  | p :: wr, σ, gh, w, h, hp => by
    obtain ⟨gh1, hI1, hle1, b1, r1, v1, f1, g1⟩ := freeze_one h (hp p (by simp))
    -- a resource that is frozen already stays as it is
    have hkeep : ∀ q ∈ wr, FreezeOf K ⟨σ.slots, σ.res.set p.1 (some p.2)⟩ q ∨ (q.1 = p.1 ∧ q.2 = p.2) := by
      intro q hq
      obtain ⟨x, hx, hon, hk⟩ := hp q (by simp [hq])
      by_cases e : q.1 = p.1
      · right
        obtain ⟨y, hy, hony, hky⟩ := hp p (by simp)
        rw [e] at hx
        unfold St.has at hx hy
        rw [hx] at hy
        simp only [Option.some.injEq] at hy
        subst hy
        refine ⟨e, ?_⟩
        rcases hk with ⟨e1, c1, hk1, q1⟩ | ⟨e1, c1, d1, n1, hk1, q1⟩ <;> rcases hky with ⟨e2, c2, hk2, q2⟩ | ⟨e2, c2, d2, n2, hk2, q2⟩ <;> rw [hk1] at hk2 <;> cases hk2 <;> rw [q1, q2]
      · left
        exact ⟨x, by unfold St.has at hx ⊢; simpa [Ne.symm e] using hx, hon, hk⟩
    -- those of one name are dropped: they write the same
    have hdrop : ∀ (l : List (Nat × Res)) (rs : List (Option Res)), rs[p.1]? = some (some p.2) → (∀ q ∈ l, q.1 = p.1 → q.2 = p.2) → setAll rs l = setAll rs (l.filter fun q => !(q.1 == p.1)) ∧ True := by
      intro l
      induction l with
      | nil => intro rs _ _; exact ⟨rfl, trivial⟩
      | cons q l ih =>
        intro rs hrs hq
        by_cases e : q.1 = p.1
        · have h2 := hq q (by simp) e
          have : rs.set q.1 (some q.2) = rs := by rw [e, h2]; exact set_same hrs
          simp only [List.filter_cons, e, beq_self_eq_true, Bool.not_true, Bool.false_eq_true, if_false]
          rw [show setAll rs (q :: l) = setAll (rs.set q.1 (some q.2)) l from rfl, this]
          exact ih rs hrs fun q' hq' => hq q' (by simp [hq'])
        · simp only [setAll, List.filter_cons, e, Bool.not_eq_eq_eq_not, Bool.not_true, beq_eq_false_iff_ne, ne_eq, not_false_eq_true, if_true]
          exact ih _ (by simp [e, hrs]) fun q' hq' => hq q' (by simp [hq'])
    have hlt : p.1 < σ.res.length := by obtain ⟨x, hx, _⟩ := hp p (by simp); exact (List.getElem?_eq_some_iff.1 hx).1
    have hd := (hdrop wr (σ.res.set p.1 (some p.2)) (getElem?_set_has hlt) (fun q hq e => by
      rcases hkeep q hq with ⟨x, hx, hon, hk⟩ | ⟨_, h2⟩
      · -- the frozen one is not free
        exfalso
        have hx' : (σ.res.set p.1 (some p.2))[q.1]? = some (some x) := hx
        rw [e, getElem?_set_has hlt] at hx'
        simp only [Option.some.injEq] at hx'
        obtain ⟨y, _, _, hky⟩ := hp p (by simp)
        rcases hk with ⟨e1, c1, hk1, _⟩ | ⟨e1, c1, d1, n1, hk1, _⟩ <;> rcases hky with ⟨e2, c2, _, q2⟩ | ⟨e2, c2, d2, n2, _, q2⟩ <;> rw [← hx', q2] at hk1 <;> cases hk1
      · exact h2)).1
    obtain ⟨gh2, hI2, hle2, b2, r2, v2, f2, g2⟩ := freeze_all (wr := wr.filter fun q => !(q.1 == p.1)) hI1 (fun q hq => by
      simp only [List.mem_filter, Bool.not_eq_eq_eq_not, Bool.not_true, beq_eq_false_iff_ne] at hq
      exact (hkeep q hq.1).resolve_right fun e => hq.2 e.1)
    refine ⟨gh2, ?_, ⟨fun r b hb => hle2.β r b (hle1.β r b hb), fun r => Nat.le_trans (hle1.vr r) (hle2.vr r), fun r h1 h2 => by rw [r2, r1], fun b hb => hle2.F b (hle1.F b hb)⟩, b2.trans b1, r2.trans r1, v2.trans v1, fun q hq x b hx hl => ?_, fun b hb => ?_⟩
    · show Inv K ⟨σ.slots, setAll (σ.res.set p.1 (some p.2)) wr⟩ gh2 a w
      rw [hd]
      exact hI2
    · by_cases e : q.1 = p.1
      · rw [e] at hx hl
        exact hle2.F b (g1 x b hx hl)
      · have hq' : q ∈ wr := by
          rcases List.mem_cons.1 hq with rfl | hq
          · exact absurd rfl e
          · exact hq
        refine f2 q (List.mem_filter.2 ⟨hq', by simp [e]⟩) x b (by unfold St.has at hx ⊢; simpa [Ne.symm e] using hx) ?_
        exact (RK.live_same (gh := gh) (gh' := gh1) x.k (by rw [b1]) (by rw [r1])).trans hl
    · rcases g2 b hb with h1 | ⟨r, x, hx, hon, hl⟩
      · rcases f1 b h1 with h2 | ⟨x, hx, hon, hl⟩
        · exact .inl h2
        · exact .inr ⟨p.1, x, hx, hon, hl⟩
      · have hl0 := (RK.live_same (gh := gh) (gh' := gh1) x.k (r := r) (by rw [b1]) (by rw [r1])).symm.trans hl
        unfold St.has at hx
        by_cases e : r = p.1
        · subst e
          rw [show (⟨σ.slots, σ.res.set p.1 (some p.2)⟩ : St).res = σ.res.set p.1 (some p.2) from rfl, getElem?_set_has hlt] at hx
          simp only [Option.some.injEq] at hx
          subst hx
          obtain ⟨y, _, _, hky⟩ := hp p (by simp)
          rcases hky with ⟨e2, c2, _, q2⟩ | ⟨e2, c2, d2, n2, _, q2⟩ <;> rw [q2] at hl <;> cases hl
        · exact .inr ⟨r, x, by unfold St.has; simpa [Ne.symm e] using hx, hon, hl0⟩
termination_by wr => wr.length
decreasing_by
  simp only [List.length_cons]
  have := List.length_filter_le (fun q : Nat × Res => !(q.1 == p.1)) wr
  omega

/-- a cell handed over: its datum, read among all that exists; and, where it is frozen, among what is frozen -/
def CellOk (K : Ctx) (σ : St) (w : World) (gh : Gh) (fz : Bool) (wr : List (Nat × Res)) (R : (Nat → Prop) → Prop) : Prop :=
  (∀ p ∈ wr, FreezeOf K σ p) ∧ R (fun b => b < w.heap.size) ∧
    (fz = true → ∀ F' : Nat → Prop, (∀ b, gh.F b → F' b) → (∀ p ∈ wr, ∀ x b, σ.has p.1 x → x.k.live gh p.1 = some b → F' b) → R F')

theorem cellArg0_ok (h : Inv K σ gh a w) {G : X} (hG : (G.d K.Φ K.ρ).bool = true) {fz : Bool} {ct : CT} {s : SC} {k : X → List (Nat × Res) → RM} {eo : EO} {v : Value}
    (he : (cellArg0 G fz ct s k).run σ.res = some eo) (hs : SC.rel K.Φ K.ρ w gh s v) :
    ∃ e wr, (k e wr).run σ.res = some eo ∧ CellOk K σ w gh fz wr (fun F' => Rep w F' ct v (e.d K.Φ K.ρ)) := by
  have hall : ∀ b, gh.F b → b < w.heap.size := h.Flt
  unfold cellArg0 at he
  split at he
  · rename_i e cts r ver
    obtain ⟨_, h1, h2, h3⟩ := hs
    obtain ⟨R, hR, he2⟩ := RM.run_res he
    split at he2
    · rename_i ety cts' content ver' frz hk
      split at he2
      · rename_i hc
        simp only [Bool.and_eq_true, beq_iff_eq] at hc
        obtain ⟨⟨⟨hc1, rfl⟩, hc3⟩, rfl⟩ := hc
        have := CT.beqs_eq _ _ hc3
        subst this
        have hon : R.on K := entails_sound _ _ hc1 hG
        have hok := h.res r R hR hon
        rw [hk] at hok
        have hv := h3 hok.1
        obtain ⟨_, _, _, hok⟩ := hok
        subst hv
        cases frz with
        | true =>
          simp only [if_true] at hok
          refine ⟨content, [], by simpa using he2, by simp, hok.mono hall fun _ _ => rfl, fun _ F' hF' _ => hok.mono hF' fun _ _ => rfl⟩
        | false =>
          simp only [Bool.false_eq_true, if_false] at hok
          obtain ⟨xs, vals, hd, hown, hrep⟩ := hok
          have hlb : ∀ b, ownB (gh.rv r) = some b → R.k.live gh r = some b := fun b hb => by rw [hk]; exact hb
          refine ⟨content, _, he2, ?_, ?_, ?_⟩
          · intro p hp
            split at hp
            · simp only [List.mem_singleton] at hp
              subst hp
              exact ⟨R, hR, hon, .inr ⟨_, _, _, _, hk, rfl⟩⟩
            · simp at hp
          · rw [hd]
            exact own_rep hown hrep hall fun b hb => (h.own r R b hR hon (hlb b hb)).2.2
          · intro hfz F' hF' hwr
            rw [hd]
            refine own_rep hown hrep hF' fun b hb => ?_
            subst hfz
            exact hwr (r, ⟨R.g, .row ety cts' content ver true⟩) (by simp) R b hR (hlb b hb)
      · exact (RM.run_fail he2).elim
    · exact (RM.run_fail he2).elim
  · obtain ⟨rfl, _⟩ := hs
    exact ⟨.lnil, [], he, by simp, .nil, fun _ _ _ _ => .nil⟩
  · rename_i cts r off
    obtain ⟨b, hβ, rfl⟩ := hs
    obtain ⟨R, hR, he2⟩ := RM.run_res he
    split at he2
    · rename_i ety cells frz hk
      split at he2
      · rename_i xs hxs
        split at he2
        · rename_i hc
          simp only [Bool.and_eq_true] at hc
          have hon : R.on K := entails_sound _ _ hc.1 hG
          have hle := Nat.le_of_ble_eq_true hc.2
          have hok := h.res r R hR hon
          rw [hk] at hok
          obtain ⟨b', cur, hb', hg, hrel, hfr⟩ := hok
          obtain rfl : b' = b := Option.some.inj (hb'.symm.trans hβ)
          have hlen := relS_length hrel
          simp only [Array.length_toList] at hlen
          obtain ⟨c1, c2, c3⟩ := cellsData_rep hxs _ (relS_drop off hrel)
          have hmk : ∀ F' : Nat → Prop, (∀ b, gh.F b → F' b) → F' b' → Rep w F' (.pt cts) (.pointer (some ⟨b', off, none⟩)) ((X.pk (consX xs)).d K.Φ K.ρ) := by
            intro F' hF' hb
            refine .pt hb hg (by omega) (by rw [ds_consX_length, c1]) fun j ct hj => ?_
            have := c3 j ct hj
            have e1 : (cur.toList.drop off).getD j undef = cur.getD (off + j) undef := by simp [List.getD, Array.getD_eq_getD_getElem?]
            rw [e1] at this
            exact this.mono hF' fun _ _ => rfl
          have hblt : b' < w.heap.size := (Array.getElem?_eq_some_iff.1 hg).1
          refine ⟨.pk (consX xs), _, he2, ?_, hmk _ hall hblt, ?_⟩
          · intro p hp
            split at hp
            · rename_i hcond
              simp only [List.mem_singleton] at hp
              simp only [Bool.and_eq_true, Bool.not_eq_eq_eq_not, Bool.not_true] at hcond
              subst hp
              exact ⟨R, hR, hon, .inl ⟨_, _, by rw [hk, hcond.2], rfl⟩⟩
            · simp at hp
          · intro hfz F' hF' hwr
            refine hmk F' hF' ?_
            cases frz with
            | true => exact hF' _ (hfr rfl)
            | false =>
              subst hfz
              exact hwr (r, ⟨R.g, .box ety cells true⟩) (by simp) R b' hR (by rw [hk]; exact hβ)
        · exact (RM.run_fail he2).elim
      · exact (RM.run_fail he2).elim
    · exact (RM.run_fail he2).elim
  · rename_i ct' e
    split at he
    · rename_i hct
      have := CT.beq_eq _ _ hct
      subst this
      have hs' : Rep w gh.F _ v (e.d K.Φ K.ρ) := hs
      exact ⟨e, [], he, by simp, hs'.mono hall fun _ _ => rfl, fun _ F' hF' _ => hs'.mono hF' fun _ _ => rfl⟩
    · exact (RM.run_fail he).elim
  · exact (RM.run_fail he).elim

theorem CellOk.append {fz : Bool} {wr wr' : List (Nat × Res)} {R R' R'' : (Nat → Prop) → Prop} (h1 : CellOk K σ w gh fz wr R) (h2 : CellOk K σ w gh fz wr' R') (h : ∀ F, R F → R' F → R'' F) : CellOk K σ w gh fz (wr ++ wr') R'' :=
  ⟨fun p hp => (List.mem_append.1 hp).elim (h1.1 p) (h2.1 p), h _ h1.2.1 h2.2.1, fun hfz F' hF' hwr => h _ (h1.2.2 hfz F' hF' fun p hp => hwr p (by simp [hp])) (h2.2.2 hfz F' hF' fun p hp => hwr p (by simp [hp]))⟩

theorem repL_get0 {F : Nat → Prop} : ∀ {cts : List CT} {vs : List Value} {ds : List D}, RepL w F cts vs ds → ∀ (j : Nat) ct, cts[j]? = some ct → Rep w F ct (vs.getD j undef) (ds.getD j default)
  | [], [], [], _, j, ct, h => by simp at h
  | _ :: _, _ :: _, _ :: _, h, 0, ct, hc => by simp at hc; subst hc; simpa using h.1
  | _ :: _, _ :: _, _ :: _, h, j + 1, ct, hc => by simpa using repL_get0 h.2 j ct (by simpa using hc)
theorem repL_len {F : Nat → Prop} : ∀ {cts : List CT} {vs : List Value} {ds : List D}, RepL w F cts vs ds → ds.length = cts.length ∧ vs.length = cts.length
  | [], [], [], _ => ⟨rfl, rfl⟩
  | _ :: _, _ :: _, _ :: _, h => by have := repL_len h.2; simp [this.1, this.2]
theorem ds_consX0 (xs : List X) : (consX xs).ds K.Φ K.ρ = xs.map (X.d K.Φ K.ρ) := by
  induction xs with
  | nil => rfl
  | cons x xs ih => simp [consX, X.ds, ih]

theorem capsArg_ok (h : Inv K σ gh a w) {G : X} (hG : (G.d K.Φ K.ρ).bool = true) {fz : Bool} : ∀ {caps : List (Nat × Nat)} {k : List CT → List X → List (Nat × Res) → RM} {eo : EO} {vs : List Value},
    (capsArg G fz caps k).run σ.res = some eo → vs.length = caps.length → (∀ (j : Nat) c, caps[j]? = some c → SC.rel K.Φ K.ρ w gh (.ptr c.1 c.2) (vs.getD j undef)) →
    ∃ ctss es wr, (k ctss es wr).run σ.res = some eo ∧ CellOk K σ w gh fz wr (fun F' => RepL w F' ctss vs (es.map (X.d K.Φ K.ρ)))
  | [], k, eo, vs, he, hl, hr => by
    cases vs with
    | nil => exact ⟨[], [], [], he, by simp, trivial, fun _ _ _ _ => trivial⟩
    | cons => simp at hl
  | c :: caps, k, eo, vs, he, hl, hr => by
    cases vs with
    | nil => simp at hl
    | cons v vs =>
      unfold capsArg at he
      obtain ⟨R, hR, he⟩ := RM.run_res he
      split at he
      · split at he
        · obtain ⟨e, wr, he1, h1⟩ := cellArg0_ok h hG he (by simpa using hr 0 c rfl)
          obtain ⟨ctss, es, wr', he2, h2⟩ := capsArg_ok h hG he1 (by simpa using hl) (fun j c hc => by simpa using hr (j + 1) c (by simpa using hc))
          refine ⟨_, e :: es, wr ++ wr', he2, ?_⟩
          exact ⟨fun p hp => (List.mem_append.1 hp).elim (h1.1 p) (h2.1 p), ⟨h1.2.1, h2.2.1⟩, fun hfz F' hF' hwr => ⟨h1.2.2 hfz F' hF' fun p hp => hwr p (by simp [hp]), h2.2.2 hfz F' hF' fun p hp => hwr p (by simp [hp])⟩⟩
        · exact (RM.run_fail he).elim
      · exact (RM.run_fail he).elim

theorem cellArg_ok (h : Inv K σ gh a w) {G : X} (hG : (G.d K.Φ K.ρ).bool = true) {fz : Bool} {ct : CT} {s : SC} {k : X → List (Nat × Res) → RM} {eo : EO} {v : Value}
    (he : (cellArg G fz ct s k).run σ.res = some eo) (hs : SC.rel K.Φ K.ρ w gh s v) :
    ∃ e wr, (k e wr).run σ.res = some eo ∧ CellOk K σ w gh fz wr (fun F' => Rep w F' ct v (e.d K.Φ K.ρ)) := by
  unfold cellArg at he
  split at he
  · rename_i f caps
    obtain ⟨vs, rfl, hsz, hb⟩ := hs
    obtain ⟨ctss, es, wr, he2, h1, h2, h3⟩ := capsArg_ok h hG he (vs := vs.toList) (by simpa using hsz) fun j c hc => by
      obtain ⟨b, hb1, hb2⟩ := hb j c hc
      refine ⟨b, hb1, ?_⟩
      rw [← hb2]
      simp [List.getD, Array.getD_eq_getD_getElem?]
    have mk : ∀ F' : Nat → Prop, RepL w F' ctss vs.toList (es.map (X.d K.Φ K.ρ)) → Rep w F' .clo (.func (.func f) #[] vs) ((X.clo f ctss (consX es)).d K.Φ K.ρ) := by
      intro F' hr
      obtain ⟨l1, l2⟩ := repL_len hr
      show Rep w F' .clo (.func (.func f) #[] vs) (.c f ctss ((consX es).ds K.Φ K.ρ))
      rw [ds_consX0]
      refine .clo (by simpa using l2) l1 fun j ct hj => ?_
      have := repL_get0 hr j ct hj
      have e : vs.toList.getD j undef = vs.getD j undef := by simp [List.getD, Array.getD_eq_getD_getElem?]
      rw [e] at this
      exact this
    exact ⟨_, wr, he2, h1, mk _ h2, fun hfz F' hF' hwr => mk F' (h3 hfz F' hF' hwr)⟩
  · exact cellArg0_ok h hG he hs

theorem cellsArg_ok (h : Inv K σ gh a w) {G : X} (hG : (G.d K.Φ K.ρ).bool = true) {fz : Bool} : ∀ {cts : List CT} {cs : List SC} {k : List X → List (Nat × Res) → RM} {eo : EO} {vs : List Value},
    (cellsArg G fz cts cs k).run σ.res = some eo → relS K.Φ K.ρ w gh cs vs → ∃ es wr, (k es wr).run σ.res = some eo ∧ CellOk K σ w gh fz wr (fun F' => RepL w F' cts vs (es.map (X.d K.Φ K.ρ)))
  | [], [], k, eo, vs, he, hr => by
    cases vs with
    | nil => exact ⟨[], [], he, by simp, trivial, fun _ _ _ _ => trivial⟩
    | cons => exact hr.elim
  | ct :: cts, c :: cs, k, eo, vs, he, hr => by
    cases vs with
    | nil => exact hr.elim
    | cons v vs =>
      obtain ⟨e, wr, he1, h1⟩ := cellArg_ok h hG he hr.1
      obtain ⟨es, wr', he2, h2⟩ := cellsArg_ok h hG he1 hr.2
      exact ⟨e :: es, wr ++ wr', he2, h1.append h2 fun F r1 r2 => ⟨r1, r2⟩⟩
  | [], _ :: _, k, eo, vs, he, hr => by simp [cellsArg, RM.run] at he
  | _ :: _, [], k, eo, vs, he, hr => by simp [cellsArg, RM.run] at he

theorem argCells_rel {ag : Bool} {s : SV} {cs : List SC} (h : argCells ag s = some cs) {v : Value} (hs : SV.rel K.Φ K.ρ w gh s v) : ∃ us : List Value, (if ag then v = .agg us.toArray else us = [v]) ∧ relS K.Φ K.ρ w gh cs us := by
  unfold argCells at h
  split at h
  · split at h
    · rename_i hag
      simp only [Option.some.injEq] at h
      subst h
      obtain ⟨us, rfl, hr⟩ := hs
      exact ⟨us.toList, by rw [if_pos hag], hr⟩
    · cases h
  · split at h
    · cases h
    · rename_i hag
      simp only [Option.some.injEq] at h
      subst h
      exact ⟨[v], by rw [if_neg hag], hs, trivial⟩
  · cases h

theorem argsX_ok (h : Inv K σ gh a w) {G : X} (hG : (G.d K.Φ K.ρ).bool = true) {fz : Bool} : ∀ {ps : List (Bool × List CT)} {svs : List SV} {k : List X → List (Nat × Res) → RM} {eo : EO} {vs : List Value},
    (argsX G fz ps svs k).run σ.res = some eo → svs.length = vs.length → (∀ (j : Nat) s v, svs[j]? = some s → vs[j]? = some v → SV.rel K.Φ K.ρ w gh s v) →
    ∃ es wr, (k es wr).run σ.res = some eo ∧ CellOk K σ w gh fz wr (fun F' => ArgsRep w F' ps vs (es.map (X.d K.Φ K.ρ)))
  | [], [], k, eo, vs, he, hl, hr => by
    cases vs with
    | nil => exact ⟨[], [], he, by simp, rfl, fun _ _ _ _ => rfl⟩
    | cons => simp at hl
  | p :: ps, s :: svs, k, eo, vs, he, hl, hr => by
    cases vs with
    | nil => simp at hl
    | cons v vs =>
      unfold argsX at he
      split at he
      · rename_i cs hcs
        obtain ⟨us, hus, hrel⟩ := argCells_rel hcs (hr 0 s v rfl rfl)
        obtain ⟨es, wr, he1, h1⟩ := cellsArg_ok h hG he hrel
        obtain ⟨es', wr', he2, h2⟩ := argsX_ok h hG he1 (by simpa using hl) (fun j s v hs hv => hr (j + 1) s v (by simpa using hs) (by simpa using hv))
        exact ⟨es ++ es', wr ++ wr', he2, h1.append h2 fun F r1 r2 => ⟨_, _, by simp, ⟨us, hus, r1⟩, r2⟩⟩
      · exact (RM.run_fail he).elim
  | [], _ :: _, k, eo, vs, he, hl, hr => by simp [argsX, RM.run] at he
  | _ :: _, [], k, eo, vs, he, hl, hr => by simp [argsX, RM.run] at he

theorem ds_consX (xs : List X) : (consX xs).ds K.Φ K.ρ = xs.map (X.d K.Φ K.ρ) := by
  induction xs with
  | nil => rfl
  | cons x xs ih => simp [consX, X.ds, ih]

theorem Rep.scalar {w' : World} {F F' : Nat → Prop} {ct : CT} (hc : scalarCT ct = true) {v : Value} {d : D} (h : Rep w F ct v d) : Rep w' F' ct v d := by
  cases h with
  | int h => exact .int h
  | bool => exact .bool
  | str h => exact .str h
  | nil => cases hc
  | sl => cases hc
  | pt => cases hc
  | clo => cases hc
  | ifc => cases hc

theorem RepL.scalar {w' : World} {F F' : Nat → Prop} : ∀ {cts : List CT} (_ : cts.all scalarCT = true) {vs : List Value} {ds : List D}, RepL w F cts vs ds → RepL w' F' cts vs ds
  | [], _, [], [], _ => trivial
  | ct :: cts, hc, _ :: _, _ :: _, h => by
    simp only [List.all_cons, Bool.and_eq_true] at hc
    exact ⟨h.1.scalar hc.1, RepL.scalar hc.2 h.2⟩

theorem ResRep.scalar {w' : World} {F F' : Nat → Prop} {rs : List (Bool × List CT)} (hc : scalars rs = true) {v : Value} {ds : List D} (h : ResRep w F rs v ds) : ResRep w' F' rs v ds := by
  have one : ∀ {sh : Bool × List CT} {v : Value} {ds : List D}, sh.2.all scalarCT = true → ShRep w F sh v ds → ShRep w' F' sh v ds := fun hc ⟨us, h1, h2⟩ => ⟨us, h1, h2.scalar hc⟩
  have many : ∀ {rs : List (Bool × List CT)} {vs : List Value} {ds : List D}, scalars rs = true → ArgsRep w F rs vs ds → ArgsRep w' F' rs vs ds := by
    intro rs
    induction rs with
    | nil => intro vs ds _ h; cases vs with | nil => exact h | cons => exact h.elim
    | cons r rs ih =>
      intro vs ds hc h
      simp only [scalars, List.all_cons, Bool.and_eq_true] at hc
      cases vs with
      | nil => exact h.elim
      | cons v vs =>
        obtain ⟨d1, d2, e, h1, h2⟩ := h
        exact ⟨d1, d2, e, one hc.1 h1, ih (by simpa [scalars] using hc.2) h2⟩
  match rs, hc, h with
  | [], _, h => exact h
  | [r], hc, h =>
    simp only [scalars, List.all_cons, Bool.and_eq_true] at hc
    exact one hc.1 h
  | r1 :: r2 :: rest, hc, h =>
    obtain ⟨us, e, hr⟩ := h
    exact ⟨us, e, many hc hr⟩

theorem resCells_rel {mk : Nat → X} {all : List D} : ∀ {cts : List CT} {j : Nat} {vs : List Value} {ds : List D}, RepL w gh.F cts vs ds → (∀ i, i < ds.length → (mk (j + i)).d K.Φ K.ρ = ds.getD i default) → relS K.Φ K.ρ w gh (resCells mk j cts) vs
  | [], _, [], [], _, _ => trivial
  | ct :: cts, j, v :: vs, d :: ds, h, hm => by
    refine ⟨?_, resCells_rel (all := all) h.2 fun i hi => ?_⟩
    · have := hm 0 (by simp)
      simp only [Nat.add_zero, List.getD_cons_zero] at this
      show Rep w gh.F ct v ((mk j).d K.Φ K.ρ)
      rw [this]
      exact h.1
    · have := hm (i + 1) (by simp; omega)
      rw [show j + 1 + i = j + (i + 1) by omega]
      simpa using this

theorem repL_length {F : Nat → Prop} : ∀ {cts : List CT} {vs : List Value} {ds : List D}, RepL w F cts vs ds → ds.length = cts.length ∧ vs.length = cts.length
  | [], [], [], _ => ⟨rfl, rfl⟩
  | _ :: _, _ :: _, _ :: _, h => by have := repL_length h.2; simp [this.1, this.2]

theorem resTup_rel {mk : Nat → X} : ∀ {rs : List (Bool × List CT)} {j : Nat} {vs : List Value} {ds : List D}, ArgsRep w gh.F rs vs ds → (∀ i, i < ds.length → (mk (j + i)).d K.Φ K.ρ = ds.getD i default) → relT K.Φ K.ρ w gh (resTup mk j rs) vs
  | [], _, [], _, _, _ => trivial
  | r :: rs, j, v :: vs, ds, h, hm => by
    obtain ⟨d1, d2, rfl, ⟨us, hus, hrep⟩, h2⟩ := h
    have hl := (repL_length hrep).1
    have h1 := resCells_rel (K := K) (gh := gh) (all := []) (mk := mk) (j := j) hrep fun i hi => by
      have := hm i (by simp; omega)
      rw [this]
      simp only [List.getD]
      rw [List.getElem?_append_left hi]
    refine ⟨?_, resTup_rel h2 fun i hi => ?_⟩
    · simp only
      split at hus
      · rename_i hag
        rw [if_pos hag]
        exact ⟨us.toArray, hus, h1⟩
      · rename_i hag
        rw [if_neg hag]
        subst hus
        exact h1
    · have := hm (d1.length + i) (by simp; omega)
      rw [← hl, Nat.add_assoc, this]
      simp only [List.getD]
      rw [List.getElem?_append_right (by omega)]
      congr 2
      omega

theorem resSV_rel {mk : Nat → X} {rs : List (Bool × List CT)} {s : SV} (h : resSV mk rs = some s) {v : Value} {ds : List D} (hr : ResRep w gh.F rs v ds) (hm : ∀ i, i < ds.length → (mk i).d K.Φ K.ρ = ds.getD i default) : SV.rel K.Φ K.ρ w gh s v := by
  unfold resSV at h
  unfold ResRep at hr
  split at h
  · simp only [Option.some.injEq] at h
    subst h
    exact hr
  · rename_i r
    obtain ⟨us, hus, hrep⟩ := hr
    have h1 := resCells_rel (K := K) (gh := gh) (all := []) (mk := mk) (j := 0) hrep fun i hi => by rw [Nat.zero_add]; exact hm i hi
    have := rel_mkVal h h1
    split at hus
    · rename_i hag
      rw [hus]
      simpa [hag] using this
    · rename_i hag
      subst hus
      simpa [hag] using this
  · simp only [Option.some.injEq] at h
    subst h
    rename_i hne1 hne2
    split at hr
    · exact absurd rfl hne1
    · exact absurd rfl (hne2 _)
    · obtain ⟨us, e, hrr⟩ := hr
      exact ⟨us, e, resTup_rel hrr fun i hi => by rw [Nat.zero_add]; exact hm i hi⟩

end
end Go.RV
