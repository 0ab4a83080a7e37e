/-
  RV, part 21: what the walks of library functions by hand need: their contracts from what they do to memory.
-/
import Derived.WalkSpells
import Derived.WalkLawsBesides
import Derived.Deep.LoopGhost
import Derived.Deep.RegionLaw
import Derived.Lib.Walk
import Derived.Lib.SliceRun
import Derived.Shelf.RegionOpenPlain
import Derived.Test.YtoajdhghecjdlaaZTopPackedI
namespace Go.RV
open Go.RowKit
def infoOk (P : Program) (e : TypeId) (k : Nat) (B : Nat := 1000) : Bool := match P.info? e with
  | some i => match i.zero with
    | some z => i.size == k && z.cells.size == k && decide (i.bytes ≤ B) && decide (0 < k)
    | none => false
  | none => false
theorem infoOk_spec {P : Program} {e : TypeId} {k B : Nat} (h : infoOk P e k B = true) : ∃ i z, P.info? e = some i ∧ i.zero = some z ∧ i.size = k ∧ z.cells.size = k ∧ i.bytes ≤ B ∧ 0 < k := by
  unfold infoOk at h
  split at h
  · rename_i i hi
    split at h
    · rename_i z hz
      simp only [Bool.and_eq_true, beq_iff_eq, decide_eq_true_eq] at h
      exact ⟨i, z, hi, hz, h.1.1.1, h.1.1.2, h.1.2, h.2⟩
    · cases h
  · cases h
def cloneD (ds : List D) : List D := ds
def clonePreM (M : Nat) (ds : List D) : Prop := ∃ xs, ds = [.l xs] ∧ xs.length ≤ M
abbrev clonePreP := clonePreM 8796093022208
theorem clone_meets {P : Program} {f : FuncId} {e : TypeId} {cts : List CT} {S : Sig} {M : Nat} (hps : S.ps = [(false, [.sl e cts])]) (hrs : S.rs = [(false, [.osl e cts])]) (hc : 0 < cts.length)
    (hen : ∀ (args : Array Value) (w : World), (callFunc f args).run P w = .ok (.enter f args) w)
    (hnil : ∀ w, Calls P f #[.slice none 0 0] w fun e w' => e = .returned (.slice none 0 0) ∧ w' = w)
    (hsome : ∀ (w : World) (q : Addr) (n c : Nat) (news : List Value), news.length = n * cts.length → (∀ j u, news[j]? = some u → w.cell? (q.add j) = some u) → (∀ u ∈ news, u.oneCell' = true) → n ≤ M →
      Calls P f #[.slice (some q) n c] w fun e' w' => ∃ v', e' = .returned v' ∧ w'.ownsRow w.heap.size e cts.length v' n news ∧ Below w.heap.size w w') (hlt : f < 20000 := by decide) :
    Meets P f S (clonePreM M) cloneD := by
  refine MeetsFn.meets ⟨hen, fun w F vs ds hF hA hp => ?_⟩ hlt
  obtain ⟨xs, rfl, hxs⟩ := hp
  rw [hps] at hA
  match vs, hA with
  | [v], hA =>
    obtain ⟨d1, d2, he, ⟨us, h1, h2⟩, h3⟩ := hA
    have h3 : d2 = [] := h3
    subst h3
    rw [List.append_nil] at he
    subst he
    have h1 : us = [v] := h1
    subst h1
    have hrep : Rep w F (.sl e cts) v (.l xs) := h2.1
    have hres : ∀ (w' : World) (v' : Value), OwnD w' F e cts v' (.l xs) → ResRepO w' F S.rs v' [.l xs] [v'] := fun w' v' ho => by
      rw [hrs]
      exact ⟨[v'], rfl, rfl, ho, trivial⟩
    have hFlt : ∀ w' : World, Below w.heap.size w w' → ∀ b, F b → (F b ∨ w.heap.size ≤ b) ∧ b < w'.heap.size := fun w' hb b hFb => ⟨.inl hFb, Nat.lt_of_lt_of_le (hF b hFb) hb.size⟩
    rcases rep_src hrep hc with ⟨rfl, hx⟩ | ⟨q, n, c, news, ys, rfl, hx, hn, hl, hcells, h1c, hrow⟩
    · simp only [D.l.injEq] at hx
      subst hx
      refine (hnil w).mono fun e' w' ⟨he, hw⟩ => ?_
      subst hw
      refine ⟨_, F, [.slice none 0 0], he, hres w' _ ⟨[], [], rfl, .inl ⟨rfl, rfl, _, rfl⟩, fun i hi => by simp at hi⟩, ⟨?_, by simp⟩, fun _ h => h, hFlt w' (Below.refl _ w'), Below.refl _ w'⟩
      intro u hu b hb
      simp only [List.mem_singleton] at hu
      subst hu
      cases hb
    · simp only [D.l.injEq] at hx
      subst hx
      refine (hsome w q n c news hl hcells h1c (by omega)).mono fun e' w' ⟨v', he, hown, hbel⟩ => ?_
      have hownR := OwnR.of hown
      rw [← hn] at hownR
      refine ⟨v', F, [v'], he, hres w' v' ⟨xs, news, rfl, hownR, hrow.mono (fun _ h => h) fun b hb => hbel.block b (hF b hb)⟩, ⟨?_, by simp⟩, fun _ h => h, hFlt w' hbel, hbel⟩
      intro u hu b hb
      simp only [List.mem_singleton] at hu
      subst hu
      rcases hown.2 with ⟨h1, _⟩ | ⟨g, cap, cur, h1, h2, h3, _⟩
      · rw [h1] at hb; cases hb
      · subst h1
        have hb' := ownB_own hb
        simp only [Value.ownBlock, Option.some.injEq] at hb'
        subst hb'
        refine ⟨h2, (Array.getElem?_eq_some_iff.1 h3).1, fun hFb => ?_⟩
        have := hF _ hFb
        omega
theorem enter_of {P : Program} {f : FuncId} {fn : Func} {c : Code} (hf : P.funcs[f]? = some fn) (hb : fn.body = some c) (hname : (fn.name == "runtime.NumGoroutine") = false) (args : Array Value) (w : World) : (callFunc f args).run P w = .ok (.enter f args) w := by
  have h1 : fn.name ≠ "runtime.NumGoroutine" := by simpa using hname
  simp [callFunc, hf, h1, hb]
end Go.RV
