/-
  RV, part 13b: names for what calls give: the state with names tells what the state tells.
-/
import Derived.Test.YthnilbkkihmpoaaRvReg
namespace Go.RV
open Go.RowKit

section
variable {Φ : FuncId → List D → List D} {ρ : List D} {n k : Nat} {c : X} {w : World} {gh : Gh}

theorem SC.repl_rel (hn : n = ρ.length) {s : SC} {v : Value} (hb : s.under n = true) : SC.rel Φ (ρ ++ takeD k (c.outs Φ ρ)) w gh (s.repl c n k) v ↔ SC.rel Φ ρ w gh s v := by
  cases s with
  | x ct e => simp only [SC.repl, SC.rel, (X.repl_d hn e hb).1]
  | ea t cts s i off =>
    simp only [SC.under, Bool.and_eq_true] at hb
    simp only [SC.repl, SC.rel, (X.repl_d hn s hb.1).1, (X.repl_d hn i hb.2).1]
  | pa cts p off => simp only [SC.repl, SC.rel, (X.repl_d hn p hb).1]
  | ra r ver m i off => simp only [SC.repl, SC.rel, (X.repl_d hn i hb).1]
  | da r b m i => simp only [SC.repl, SC.rel, (X.repl_d hn i hb).1]
  | ptr r off => exact Iff.rfl
  | row r ver => exact Iff.rfl
  | fn f caps => exact Iff.rfl
  | cst c => exact Iff.rfl
  | any => exact Iff.rfl

theorem relS_repl (hn : n = ρ.length) : ∀ {cs : List SC} {vs : List Value}, cs.all (SC.under n) = true → (relS Φ (ρ ++ takeD k (c.outs Φ ρ)) w gh (cs.map (SC.repl c n k)) vs ↔ relS Φ ρ w gh cs vs)
  | [], [], _ => Iff.rfl
  | [], _ :: _, _ => Iff.rfl
  | _ :: _, [], _ => Iff.rfl
  | s :: cs, v :: vs, h => by
    simp only [List.all_cons, Bool.and_eq_true] at h
    simp only [List.map_cons, relS, SC.repl_rel hn h.1, relS_repl hn h.2]

theorem relT_repl (hn : n = ρ.length) : ∀ {ps : List (Bool × List SC)} {vs : List Value}, (ps.all fun v => v.2.all (SC.under n)) = true → (relT Φ (ρ ++ takeD k (c.outs Φ ρ)) w gh (ps.map fun v => (v.1, v.2.map (SC.repl c n k))) vs ↔ relT Φ ρ w gh ps vs)
  | [], [], _ => Iff.rfl
  | [], _ :: _, _ => Iff.rfl
  | _ :: _, [], _ => Iff.rfl
  | s :: cs, v :: vs, h => by
    simp only [List.all_cons, Bool.and_eq_true] at h
    simp only [List.map_cons, relT, relS_repl hn h.1, relT_repl hn h.2]

theorem SV.repl_rel (hn : n = ρ.length) : ∀ {s : SV} {v : Value}, s.under n = true → (SV.rel Φ (ρ ++ takeD k (c.outs Φ ρ)) w gh (s.repl c n k) v ↔ SV.rel Φ ρ w gh s v)
  | .c s, v, h => by simp only [SV.repl, SV.rel, SC.repl_rel hn (s := s) h]
  | .agg cs, v, h => by simp only [SV.repl, SV.rel, relS_repl hn (cs := cs) h]
  | .tup ps, v, h => by simp only [SV.repl, SV.rel, relT_repl hn (ps := ps) h]
  | .grd g s, v, h => by
    simp only [SV.under, Bool.and_eq_true] at h
    simp only [SV.repl, SV.rel, (X.repl_d hn g h.1).1, SV.repl_rel hn (s := s) h.2]
  | .und, v, _ => Iff.rfl
  | .any, v, _ => Iff.rfl

theorem ResOk_repl (hn : n = ρ.length) {r : Nat} {k' : RK} (hb : k'.under n = true) : ResOk Φ (ρ ++ takeD k (c.outs Φ ρ)) w gh r (k'.repl c n k) ↔ ResOk Φ ρ w gh r k' := by
  cases k' with
  | box e cells z => simp only [RK.repl, ResOk, relS_repl hn (cs := cells) hb]
  | row e cts x ver z => simp only [RK.repl, ResOk, (X.repl_d hn x hb).1]

theorem Nd.repl_holds (hn : n = ρ.length) {pre : FuncId → List D → Prop} {d : Nd} (hb : d.under n = true) : (d.repl c n k).holds pre Φ (ρ ++ takeD k (c.outs Φ ρ)) ↔ d.holds pre Φ ρ := by
  cases d with
  | c x => simp only [Nd.repl, Nd.holds, (X.repl_d hn x hb).1]
  | pre f as => simp only [Nd.repl, Nd.holds, (X.repl_d hn as hb).2]
  | pg g f as =>
    simp only [Nd.under, Bool.and_eq_true] at hb
    simp only [Nd.repl, Nd.holds, (X.repl_d hn g hb.1).1, (X.repl_d hn as hb.2).2]
  | ct g cts e =>
    simp only [Nd.under, Bool.and_eq_true] at hb
    simp only [Nd.repl, Nd.holds, (X.repl_d hn g hb.1).1, (X.repl_d hn e hb.2).1]

theorem RK.repl_live {r : Nat} {k' : RK} : (k'.repl c n k).live gh r = k'.live gh r := by
  cases k' with
  | box e cells z => cases z <;> rfl
  | row e cts x ver z => cases z <;> rfl
end

section
variable {P : Program} {K : Ctx} {σ : St} {gh : Gh} {a : Act} {w : World} {sg : FuncId → Option Sig}

/-- the context in which the data of a call have names -/
def Ctx.more (K : Ctx) (c : X) (k : Nat) : Ctx := { K with ρ := K.ρ ++ takeD k (c.outs K.Φ K.ρ) }

theorem Inv.share {c : X} {k n : Nat} (hn : n = K.ρ.length) (h : Inv K σ gh a w) (hb : σ.under n = true) : Inv (K.more c k) (σ.repl c n k) gh a w := by
  simp only [St.under, Bool.and_eq_true] at hb
  obtain ⟨hbs, hbr⟩ := hb
  have hslot : ∀ (m : Nat) s, (σ.repl c n k).slots[m]? = some s → ∃ s0, σ.slots[m]? = some s0 ∧ s = s0.repl c n k ∧ s0.under n = true := by
    intro m s hs
    simp only [St.repl, List.getElem?_map, Option.map_eq_some_iff] at hs
    obtain ⟨s0, h1, h2⟩ := hs
    exact ⟨s0, h1, h2.symm, List.all_eq_true.1 hbs s0 (List.mem_of_getElem? h1)⟩
  have hres : ∀ r x, (σ.repl c n k).has r x → ∃ x0, σ.has r x0 ∧ x = x0.repl c n k ∧ x0.under n = true := by
    intro r x hx
    simp only [St.has, St.repl, List.getElem?_map, Option.map_eq_some_iff] at hx
    obtain ⟨y, h1, h2⟩ := hx
    obtain ⟨x0, h3, h4⟩ := h2
    subst h3
    exact ⟨x0, h1, h4.symm, by have := List.all_eq_true.1 hbr _ (List.mem_of_getElem? h1); exact this⟩
  have hres' : ∀ r x0, σ.has r x0 → (σ.repl c n k).has r (x0.repl c n k) ∧ x0.under n = true := by
    intro r x0 hx
    have hx' : σ.res[r]? = some (some x0) := hx
    refine ⟨?_, by have := List.all_eq_true.1 hbr _ (List.mem_of_getElem? hx'); exact this⟩
    simp only [St.has, St.repl, List.getElem?_map, hx', Option.map_some]
  have hon : ∀ x0 : Res, x0.under n = true → ((x0.repl c n k).on (K.more c k) ↔ x0.on K) := by
    intro x0 hb
    simp only [Res.under, Bool.and_eq_true] at hb
    simp only [Res.on, Res.repl, Ctx.more, (X.repl_d hn x0.g hb.1).1]
  refine ⟨h.defers, by rw [h.size]; simp [St.repl], fun m s hs => ?_, h.kept, h.os, h.tape, h.output, h.grow, h.pr, h.prlt, h.Flt, fun r b hb => ?_, fun r hr => ?_, fun r x hx ho => ?_, fun r x b hx ho hl => ?_, fun r x r' x' b hx ho hx' ho' hl hl' => ?_, h.le0, h.Fpr⟩
  · obtain ⟨s0, h1, rfl, h2⟩ := hslot m s hs
    exact (SV.repl_rel hn h2).2 (h.slot m s0 h1)
  · obtain ⟨x0, h1, h2⟩ := h.beta r b hb
    obtain ⟨h3, h4⟩ := hres' r x0 h1
    exact ⟨_, h3, (hon x0 h4).2 h2⟩
  · obtain ⟨x0, h1, h2⟩ := h.vr0 r hr
    obtain ⟨h3, h4⟩ := hres' r x0 h1
    exact ⟨_, h3, (hon x0 h4).2 h2⟩
  · obtain ⟨x0, h1, rfl, h2⟩ := hres r x hx
    have := h.res r x0 h1 ((hon x0 h2).1 ho)
    simp only [Res.under, Bool.and_eq_true] at h2
    exact (ResOk_repl hn h2.2).2 this
  · obtain ⟨x0, h1, rfl, h2⟩ := hres r x hx
    have hl' : x0.k.live gh r = some b := by rw [← hl]; exact RK.repl_live.symm
    exact h.own r x0 b h1 ((hon x0 h2).1 ho) hl'
  · obtain ⟨x0, h1, rfl, h2⟩ := hres r x hx
    obtain ⟨y0, k1, rfl, k2⟩ := hres r' x' hx'
    have e1 : x0.k.live gh r = some b := by rw [← hl]; exact RK.repl_live.symm
    have e2 : y0.k.live gh r' = some b := by rw [← hl']; exact RK.repl_live.symm
    exact h.inj r x0 r' y0 b h1 ((hon x0 h2).1 ho) k1 ((hon y0 k2).1 ho') e1 e2

/-! ### what a run asks for -/
def OT.ok (Φ : FuncId → List D → List D) (pre : FuncId → List D → Prop) (leaf : List D → EK → St → Prop) : List D → OT → Prop
  | ρ, .fin k σ => leaf ρ k σ
  | ρ, .need g n t => ((g.d Φ ρ).bool = true → n.holds pre Φ ρ) ∧ t.ok Φ pre leaf ρ
  | ρ, .ite c x y => if (c.d Φ ρ).bool = true then x.ok Φ pre leaf ρ else y.ok Φ pre leaf ρ
  | ρ, .lt c k t => t.ok Φ pre leaf (ρ ++ takeD k (c.outs Φ ρ))
  | _, .fail => False

theorem share_ok {Φ : FuncId → List D → List D} {pre : FuncId → List D → Prop} {leaf : List D → EK → St → Prop} : ∀ {fuel n : Nat} {nds : List (X × Nd)} {σ : St} {K : Ctx}, K.Φ = Φ → n = K.ρ.length → (share sg fuel n nds σ).ok Φ pre leaf K.ρ →
    NdOk K pre nds ∧ ∃ δ σ', leaf (K.ρ ++ δ) .normal σ' ∧ ∀ gh a w, Inv K σ gh a w → Inv { K with ρ := K.ρ ++ δ } σ' gh a w
  | fuel, n, [], σ, K, hΦ, hn, h => by
    unfold share at h
    refine ⟨fun m hm => (by cases hm), [], σ, ?_, fun gh a w hI => ?_⟩
    · rw [List.append_nil]; exact h
    · rw [List.append_nil]; exact hI
  | 0, n, d :: nds, σ, K, hΦ, hn, h => by
    unfold share at h
    exact h.elim
  | fuel + 1, n, d :: nds, σ, K, hΦ, hn, h => by
    unfold share at h
    split at h
    · obtain ⟨h1, h2⟩ := share_ok hΦ hn h.2
      refine ⟨fun m hm => ?_, h2⟩
      cases hm with
      | head => rw [hΦ]; exact h.1
      | tail _ hm => exact h1 m hm
    · rename_i c k hc
      split at h
      · obtain ⟨h1, h2⟩ := share_ok hΦ hn h.2
        refine ⟨fun m hm => ?_, h2⟩
        cases hm with
        | head => rw [hΦ]; exact h.1
        | tail _ hm => exact h1 m hm
      · split at h
        · rename_i hb
          simp only [Bool.and_eq_true] at hb
          obtain ⟨⟨hb1, hb2⟩, hb3⟩ := hb
          obtain ⟨h0, h⟩ := h
          have hΦ' : (K.more c k).Φ = Φ := hΦ
          have hρ : (K.more c k).ρ = K.ρ ++ takeD k (c.outs Φ K.ρ) := by simp only [Ctx.more, hΦ]
          have h' : (share sg fuel (n + k) (nds.map fun m => (m.1.repl c n k, m.2.repl c n k)) (σ.repl c n k)).ok Φ pre leaf (K.more c k).ρ := by rw [hρ]; exact h
          obtain ⟨h1, δ, σ', h2, h3⟩ := share_ok (K := K.more c k) hΦ' (by rw [hρ]; simp [hn]) h'
          refine ⟨fun m hm => ?_, takeD k (c.outs Φ K.ρ) ++ δ, σ', ?_, fun gh a w hI => ?_⟩
          · cases hm with
            | head => rw [hΦ]; exact h0
            | tail _ hm =>
              have hbm := List.all_eq_true.1 hb2 m hm
              simp only [Bool.and_eq_true] at hbm
              have := h1 _ (List.mem_map_of_mem hm)
              intro hg
              refine (Nd.repl_holds (Φ := K.Φ) (c := c) (k := k) hn hbm.2).1 (this ?_)
              show ((m.1.repl c n k).d K.Φ (K.ρ ++ takeD k (c.outs K.Φ K.ρ))).bool = true
              rw [(X.repl_d hn m.1 hbm.1).1]
              exact hg
          · rw [hρ, List.append_assoc] at h2
            exact h2
          · have := h3 gh a w (hI.share hn hb1)
            have e : ({ K.more c k with ρ := (K.more c k).ρ ++ δ } : Ctx) = { K with ρ := K.ρ ++ (takeD k (c.outs Φ K.ρ) ++ δ) } := by
              simp only [Ctx.more, hΦ, List.append_assoc]
            rw [e] at this
            exact this
        · exact h.elim
end
end Go.RV
