/-
  RV, part 7: how a state goes over into the next one where memory turns.
-/
import Derived.Test.YthnilbkkihmpoaaRvOps3
namespace Go.RV
open Go.RowKit

theorem ownsRow_block {w w' : World} {e : TypeId} {size : Nat} {v : Value} {n : Nat} {xs : List Value} (h : OwnR w e size v n xs)
    (hb : ∀ b, ownB v = some b → w'.heap[b]? = w.heap[b]?) : OwnR w' e size v n xs := by
  rcases h with h | ⟨g, cap, cur, hv, h0, h1, hh, r⟩
  · exact .inl h
  · refine .inr ⟨g, cap, cur, hv, h0, h1, ?_, r⟩
    obtain ⟨c, rfl⟩ : ∃ c, cap = c + 1 := ⟨cap - 1, by omega⟩
    rw [hb g (by rw [hv]; rfl)]; exact hh

section
variable {K : Ctx} {σ : St} {gh gh' : Gh} {a : Act} {w w' : World}

theorem ResOk.keep {Φ : FuncId → List D → List D} {ρ : List D} {r : Nat} {k : RK} (h : ResOk Φ ρ w gh r k) (hle : gh.le gh') (hβ : gh'.β r = gh.β r) (hrv : gh'.rv r = gh.rv r) (hvr : gh'.vr r = gh.vr r)
    (hF : ∀ b, gh.F b → w'.heap[b]? = w.heap[b]?) (hl : ∀ b, k.live gh r = some b → w'.heap[b]? = w.heap[b]?) : ResOk Φ ρ w' gh' r k := by
  cases k with
  | box ety cells frz =>
    obtain ⟨b, cur, h1, h2, h3, h4⟩ := h
    refine ⟨b, cur, by rw [hβ]; exact h1, ?_, relS_mono hle hF h3, fun hf => hle.F _ (h4 hf)⟩
    cases frz with
    | true => rw [hF b (h4 rfl)]; exact h2
    | false => rw [hl b h1]; exact h2
  | row ety cts content ver frz =>
    obtain ⟨h1, h2, h3, h4⟩ := h
    refine ⟨by rw [hvr]; exact h1, h2, by rw [hrv]; exact h3, ?_⟩
    cases frz with
    | true =>
      simp only [if_true] at h4 ⊢
      rw [hrv]
      exact h4.mono hle.F hF
    | false =>
      simp only [Bool.false_eq_true, if_false] at h4 ⊢
      obtain ⟨xs, vals, e1, e2, e3⟩ := h4
      exact ⟨xs, vals, e1, by rw [hrv]; exact ownsRow_block e2 hl, e3.mono hle.F hF⟩

/-- one step of memory: the resources in T turn, all others stay -/
structure Step (K : Ctx) (σ : St) (gh gh' : Gh) (w w' : World) (res' : List (Option Res)) (T : Nat → Prop) : Prop where
  le : gh.le gh'
  os : w'.os = w.os
  tape : w'.tape = w.tape
  output : w'.output = w.output
  grow : w.heap.size ≤ w'.heap.size
  same : ∀ r, ¬ T r → res'[r]? = σ.res[r]? ∧ gh'.β r = gh.β r ∧ gh'.rv r = gh.rv r ∧ gh'.vr r = gh.vr r
  blk : ∀ b, b < w.heap.size → (∀ r x, T r → σ.has r x → x.on K → x.k.live gh r ≠ some b) → w'.heap[b]? = w.heap[b]?
  Flt : ∀ b, gh'.F b → b < w'.heap.size
  Fnew : ∀ b, gh'.F b → gh.F b ∨ (¬ K.Pr b ∧ ∀ r x, ¬ T r → σ.has r x → x.on K → x.k.live gh r ≠ some b)
  res : ∀ r x, T r → res'[r]? = some (some x) → x.on K → ResOk K.Φ K.ρ w' gh' r x.k
  own : ∀ r x b, T r → res'[r]? = some (some x) → x.on K → x.k.live gh' r = some b → ¬ K.Pr b ∧ ¬ gh'.F b ∧ b < w'.heap.size ∧ ∀ r2 x2, ¬ T r2 → σ.has r2 x2 → x2.on K → x2.k.live gh r2 ≠ some b
  inj : ∀ r x r' x' b, T r → T r' → res'[r]? = some (some x) → x.on K → res'[r']? = some (some x') → x'.on K → x.k.live gh' r = some b → x'.k.live gh' r' = some b → r = r'
  beta : ∀ r b, T r → gh'.β r = some b → ∃ x, res'[r]? = some (some x) ∧ x.on K
  vr0 : ∀ r, T r → 1 ≤ gh'.vr r → ∃ x, res'[r]? = some (some x) ∧ x.on K

theorem RK.live_same {r : Nat} (k : RK) (hβ : gh'.β r = gh.β r) (hrv : gh'.rv r = gh.rv r) : k.live gh' r = k.live gh r := by
  cases k with
  | box e c z => cases z <;> simp [RK.live, hβ]
  | row e c x v z => cases z <;> simp [RK.live, hrv]

theorem Inv.step {res' : List (Option Res)} {T : Nat → Prop} (h : Inv K σ gh a w) (s : Step K σ gh gh' w w' res' T) : Inv K ⟨σ.slots, res'⟩ gh' a w' := by
  have hFb : ∀ b, gh.F b → w'.heap[b]? = w.heap[b]? := fun b hb => s.blk b (h.Flt b hb) fun r x _ hx hon hl => (h.own r x b hx hon hl).2.1 hb
  have hPrb : ∀ b, K.Pr b → w'.heap[b]? = w.heap[b]? := fun b hb => s.blk b (Nat.lt_of_lt_of_le (h.prlt b hb) h.grow) fun r x _ hx hon hl => (h.own r x b hx hon hl).1 hb
  have old : ∀ r x, ¬ T r → (⟨σ.slots, res'⟩ : St).has r x → σ.has r x := fun r x hT hx => by unfold St.has at hx ⊢; rw [← (s.same r hT).1]; exact hx
  have lv : ∀ r (k : RK), ¬ T r → k.live gh' r = k.live gh r := fun r k hT => RK.live_same k (s.same r hT).2.1 (s.same r hT).2.2.1
  refine ⟨h.defers, h.size, fun n t ht => SV.rel_mono s.le hFb (h.slot n t ht), h.kept, s.os.trans h.os, s.tape.trans h.tape, s.output.trans h.output, Nat.le_trans h.grow s.grow,
    fun b hb => (hPrb b hb).trans (h.pr b hb), h.prlt, s.Flt, fun r b hb => ?_, fun r hr => ?_, fun r x hx hon => ?_, fun r x b hx hon hl => ?_, fun r x r' x' b hx hon hx' hon' hl hl' => ?_, h.le0.trans s.le, fun b hb => (s.Fnew b hb).elim (h.Fpr b) fun hn => .inr hn.1⟩
  · by_cases hT : T r
    · exact s.beta r b hT hb
    · rw [(s.same r hT).2.1] at hb
      obtain ⟨x, hx, hon⟩ := h.beta r b hb
      exact ⟨x, by unfold St.has at hx ⊢; rw [(s.same r hT).1]; exact hx, hon⟩
  · by_cases hT : T r
    · exact s.vr0 r hT hr
    · rw [(s.same r hT).2.2.2] at hr
      obtain ⟨x, hx, hon⟩ := h.vr0 r hr
      exact ⟨x, by unfold St.has at hx ⊢; rw [(s.same r hT).1]; exact hx, hon⟩
  · by_cases hT : T r
    · exact s.res r x hT hx hon
    · obtain ⟨_, e1, e2, e3⟩ := s.same r hT
      have hx0 := old r x hT hx
      refine (h.res r x hx0 hon).keep s.le e1 e2 e3 hFb fun b hl => s.blk b (h.own r x b hx0 hon hl).2.2 fun r2 x2 hT2 hx2 hon2 hl2 => ?_
      have := h.inj r x r2 x2 b hx0 hon hx2 hon2 hl hl2
      subst this; exact hT hT2
  · by_cases hT : T r
    · obtain ⟨h1, h2, h3, _⟩ := s.own r x b hT hx hon hl
      exact ⟨h1, h2, h3⟩
    · have hx0 := old r x hT hx
      rw [lv r _ hT] at hl
      obtain ⟨h1, h2, h3⟩ := h.own r x b hx0 hon hl
      refine ⟨h1, fun hF' => ?_, Nat.lt_of_lt_of_le h3 s.grow⟩
      rcases s.Fnew b hF' with hF | hF
      · exact h2 hF
      · exact hF.2 r x hT hx0 hon hl
  · by_cases hT : T r
    · by_cases hT' : T r'
      · exact s.inj r x r' x' b hT hT' hx hon hx' hon' hl hl'
      · rw [lv r' _ hT'] at hl'
        exact absurd hl' ((s.own r x b hT hx hon hl).2.2.2 r' x' hT' (old r' x' hT' hx') hon')
    · by_cases hT' : T r'
      · rw [lv r _ hT] at hl
        exact absurd hl ((s.own r' x' b hT' hx' hon' hl').2.2.2 r x hT (old r x hT hx) hon)
      · rw [lv r _ hT] at hl
        rw [lv r' _ hT'] at hl'
        exact h.inj r x r' x' b (old r x hT hx) hon (old r' x' hT' hx') hon' hl hl'

end
end Go.RV
