/-
  RV, part 13b: names for what calls give: the state with names tells what the state tells.; RV, part 16: code; loops.; RV, part 16b: conditions without what is known already.; RV, part 17: functions.; RV, part 17b: contracts of functions that write, from their runs.; RV, part 18b: the contract of a function that changes a row, from its run.
-/
import Derived.Test.YthpppbfiiphgoaaZSceneLayersE
namespace Go.RV
open Go.RowKit
section
variable {Φ : FuncId → List D → List D} {ρ : List D} {n k : Nat} {c : X} {w : World} {gh : Gh}
theorem SC.repl_rel (hn : n = ρ.length) {s : SC} {v : Value} (hb : s.under n = true) : SC.rel Φ (ρ ++ takeD k (c.outs Φ ρ)) w gh (s.repl c n k) v ↔ SC.rel Φ ρ w gh s v := by
  cases s with
  | x ct e => simp only [SC.repl, SC.rel, (X.repl_d hn e hb).1]
  | ea t cts s i off =>
    simp only [SC.under, Bool.and_eq_true] at hb
    simp only [SC.repl, SC.rel, (X.repl_d hn s hb.1).1, (X.repl_d hn i hb.2).1]
  | pa cts p off => simp only [SC.repl, SC.rel, (X.repl_d hn p hb).1]
  | ra r ver m i off => simp only [SC.repl, SC.rel, (X.repl_d hn i hb).1]
  | da r b m i => simp only [SC.repl, SC.rel, (X.repl_d hn i hb).1]
  | ptr r off => exact Iff.rfl
  | row r ver => exact Iff.rfl
  | fn f caps => exact Iff.rfl
  | cst c => exact Iff.rfl
  | any => exact Iff.rfl
theorem relS_repl (hn : n = ρ.length) : ∀ {cs : List SC} {vs : List Value}, cs.all (SC.under n) = true → (relS Φ (ρ ++ takeD k (c.outs Φ ρ)) w gh (cs.map (SC.repl c n k)) vs ↔ relS Φ ρ w gh cs vs)
  | [], [], _ => Iff.rfl
  | [], _ :: _, _ => Iff.rfl
  | _ :: _, [], _ => Iff.rfl
  | s :: cs, v :: vs, h => by
    simp only [List.all_cons, Bool.and_eq_true] at h
    simp only [List.map_cons, relS, SC.repl_rel hn h.1, relS_repl hn h.2]
theorem relT_repl (hn : n = ρ.length) : ∀ {ps : List (Bool × List SC)} {vs : List Value}, (ps.all fun v => v.2.all (SC.under n)) = true → (relT Φ (ρ ++ takeD k (c.outs Φ ρ)) w gh (ps.map fun v => (v.1, v.2.map (SC.repl c n k))) vs ↔ relT Φ ρ w gh ps vs)
  | [], [], _ => Iff.rfl
  | [], _ :: _, _ => Iff.rfl
  | _ :: _, [], _ => Iff.rfl
  | s :: cs, v :: vs, h => by
    simp only [List.all_cons, Bool.and_eq_true] at h
    simp only [List.map_cons, relT, relS_repl hn h.1, relT_repl hn h.2]
theorem SV.repl_rel (hn : n = ρ.length) : ∀ {s : SV} {v : Value}, s.under n = true → (SV.rel Φ (ρ ++ takeD k (c.outs Φ ρ)) w gh (s.repl c n k) v ↔ SV.rel Φ ρ w gh s v)
  | .c s, v, h => by simp only [SV.repl, SV.rel, SC.repl_rel hn (s := s) h]
  | .agg cs, v, h => by simp only [SV.repl, SV.rel, relS_repl hn (cs := cs) h]
  | .tup ps, v, h => by simp only [SV.repl, SV.rel, relT_repl hn (ps := ps) h]
  | .grd g s, v, h => by
    simp only [SV.under, Bool.and_eq_true] at h
    simp only [SV.repl, SV.rel, (X.repl_d hn g h.1).1, SV.repl_rel hn (s := s) h.2]
  | .und, v, _ => Iff.rfl
  | .any, v, _ => Iff.rfl
theorem ResOk_repl (hn : n = ρ.length) {r : Nat} {k' : RK} (hb : k'.under n = true) : ResOk Φ (ρ ++ takeD k (c.outs Φ ρ)) w gh r (k'.repl c n k) ↔ ResOk Φ ρ w gh r k' := by
  cases k' with
  | box e cells z => simp only [RK.repl, ResOk, relS_repl hn (cs := cells) hb]
  | row e cts x ver z => simp only [RK.repl, ResOk, (X.repl_d hn x hb).1]
theorem Nd.repl_holds (hn : n = ρ.length) {pre : FuncId → List D → Prop} {d : Nd} (hb : d.under n = true) : (d.repl c n k).holds pre Φ (ρ ++ takeD k (c.outs Φ ρ)) ↔ d.holds pre Φ ρ := by
  cases d with
  | c x => simp only [Nd.repl, Nd.holds, (X.repl_d hn x hb).1]
  | pre f as => simp only [Nd.repl, Nd.holds, (X.repl_d hn as hb).2]
  | pg g f as =>
    simp only [Nd.under, Bool.and_eq_true] at hb
    simp only [Nd.repl, Nd.holds, (X.repl_d hn g hb.1).1, (X.repl_d hn as hb.2).2]
  | ct g cts e =>
    simp only [Nd.under, Bool.and_eq_true] at hb
    simp only [Nd.repl, Nd.holds, (X.repl_d hn g hb.1).1, (X.repl_d hn e hb.2).1]
theorem RK.repl_live {r : Nat} {k' : RK} : (k'.repl c n k).live gh r = k'.live gh r := by
  cases k' with
  | box e cells z => cases z <;> rfl
  | row e cts x ver z => cases z <;> rfl
end
section
variable {P : Program} {K : Ctx} {σ : St} {gh : Gh} {a : Act} {w : World} {sg : FuncId → Option Sig}
def Ctx.more (K : Ctx) (c : X) (k : Nat) : Ctx := { K with ρ := K.ρ ++ takeD k (c.outs K.Φ K.ρ) }
theorem Inv.share {c : X} {k n : Nat} (hn : n = K.ρ.length) (h : Inv K σ gh a w) (hb : σ.under n = true) : Inv (K.more c k) (σ.repl c n k) gh a w := by
  simp only [St.under, Bool.and_eq_true] at hb
  obtain ⟨hbs, hbr⟩ := hb
  have hslot : ∀ (m : Nat) s, (σ.repl c n k).slots[m]? = some s → ∃ s0, σ.slots[m]? = some s0 ∧ s = s0.repl c n k ∧ s0.under n = true := by
    intro m s hs
    simp only [St.repl, List.getElem?_map, Option.map_eq_some_iff] at hs
    obtain ⟨s0, h1, h2⟩ := hs
    exact ⟨s0, h1, h2.symm, List.all_eq_true.1 hbs s0 (List.mem_of_getElem? h1)⟩
  have hres : ∀ r x, (σ.repl c n k).has r x → ∃ x0, σ.has r x0 ∧ x = x0.repl c n k ∧ x0.under n = true := by
    intro r x hx
    simp only [St.has, St.repl, List.getElem?_map, Option.map_eq_some_iff] at hx
    obtain ⟨y, h1, h2⟩ := hx
    obtain ⟨x0, h3, h4⟩ := h2
    subst h3
    exact ⟨x0, h1, h4.symm, by have := List.all_eq_true.1 hbr _ (List.mem_of_getElem? h1); exact this⟩
  have hres' : ∀ r x0, σ.has r x0 → (σ.repl c n k).has r (x0.repl c n k) ∧ x0.under n = true := by
    intro r x0 hx
    have hx' : σ.res[r]? = some (some x0) := hx
    refine ⟨?_, by have := List.all_eq_true.1 hbr _ (List.mem_of_getElem? hx'); exact this⟩
    simp only [St.has, St.repl, List.getElem?_map, hx', Option.map_some]
  have hon : ∀ x0 : Res, x0.under n = true → ((x0.repl c n k).on (K.more c k) ↔ x0.on K) := by
    intro x0 hb
    simp only [Res.under, Bool.and_eq_true] at hb
    simp only [Res.on, Res.repl, Ctx.more, (X.repl_d hn x0.g hb.1).1]
  refine ⟨h.defers, by rw [h.size]; simp [St.repl], fun m s hs => ?_, h.kept, h.os, h.tape, h.output, h.grow, h.pr, h.prlt, h.Flt, fun r b hb => ?_, fun r hr => ?_, fun r x hx ho => ?_, fun r x b hx ho hl => ?_, fun r x r' x' b hx ho hx' ho' hl hl' => ?_, h.le0, h.Fpr⟩
  · obtain ⟨s0, h1, rfl, h2⟩ := hslot m s hs
    exact (SV.repl_rel hn h2).2 (h.slot m s0 h1)
  · obtain ⟨x0, h1, h2⟩ := h.beta r b hb
    obtain ⟨h3, h4⟩ := hres' r x0 h1
    exact ⟨_, h3, (hon x0 h4).2 h2⟩
  · obtain ⟨x0, h1, h2⟩ := h.vr0 r hr
    obtain ⟨h3, h4⟩ := hres' r x0 h1
    exact ⟨_, h3, (hon x0 h4).2 h2⟩
  · obtain ⟨x0, h1, rfl, h2⟩ := hres r x hx
    have := h.res r x0 h1 ((hon x0 h2).1 ho)
    simp only [Res.under, Bool.and_eq_true] at h2
    exact (ResOk_repl hn h2.2).2 this
  · obtain ⟨x0, h1, rfl, h2⟩ := hres r x hx
    have hl' : x0.k.live gh r = some b := by rw [← hl]; exact RK.repl_live.symm
    exact h.own r x0 b h1 ((hon x0 h2).1 ho) hl'
  · obtain ⟨x0, h1, rfl, h2⟩ := hres r x hx
    obtain ⟨y0, k1, rfl, k2⟩ := hres r' x' hx'
    have e1 : x0.k.live gh r = some b := by rw [← hl]; exact RK.repl_live.symm
    have e2 : y0.k.live gh r' = some b := by rw [← hl']; exact RK.repl_live.symm
    exact h.inj r x0 r' y0 b h1 ((hon x0 h2).1 ho) k1 ((hon y0 k2).1 ho') e1 e2
def OT.ok (Φ : FuncId → List D → List D) (pre : FuncId → List D → Prop) (leaf : List D → EK → St → Prop) : List D → OT → Prop
  | ρ, .fin k σ => leaf ρ k σ
  | ρ, .need g n t => ((g.d Φ ρ).bool = true → n.holds pre Φ ρ) ∧ t.ok Φ pre leaf ρ
  | ρ, .ite c x y => if (c.d Φ ρ).bool = true then x.ok Φ pre leaf ρ else y.ok Φ pre leaf ρ
  | ρ, .lt c k t => t.ok Φ pre leaf (ρ ++ takeD k (c.outs Φ ρ))
  | _, .fail => False
theorem share_ok {Φ : FuncId → List D → List D} {pre : FuncId → List D → Prop} {leaf : List D → EK → St → Prop} : ∀ {fuel n : Nat} {nds : List (X × Nd)} {σ : St} {K : Ctx}, K.Φ = Φ → n = K.ρ.length → (share sg fuel n nds σ).ok Φ pre leaf K.ρ →
    NdOk K pre nds ∧ ∃ δ σ', leaf (K.ρ ++ δ) .normal σ' ∧ ∀ gh a w, Inv K σ gh a w → Inv { K with ρ := K.ρ ++ δ } σ' gh a w
  | fuel, n, [], σ, K, hΦ, hn, h => by
    unfold share at h
    refine ⟨fun m hm => (by cases hm), [], σ, ?_, fun gh a w hI => ?_⟩
    · rw [List.append_nil]; exact h
    · rw [List.append_nil]; exact hI
  | 0, n, d :: nds, σ, K, hΦ, hn, h => by
    unfold share at h
    exact h.elim
  | fuel + 1, n, d :: nds, σ, K, hΦ, hn, h => by
    unfold share at h
    split at h
    · obtain ⟨h1, h2⟩ := share_ok hΦ hn h.2
      refine ⟨fun m hm => ?_, h2⟩
      cases hm with
      | head => rw [hΦ]; exact h.1
      | tail _ hm => exact h1 m hm
    · rename_i c k hc
      split at h
      · obtain ⟨h1, h2⟩ := share_ok hΦ hn h.2
        refine ⟨fun m hm => ?_, h2⟩
        cases hm with
        | head => rw [hΦ]; exact h.1
        | tail _ hm => exact h1 m hm
      · split at h
        · rename_i hb
          simp only [Bool.and_eq_true] at hb
          obtain ⟨⟨hb1, hb2⟩, hb3⟩ := hb
          obtain ⟨h0, h⟩ := h
          have hΦ' : (K.more c k).Φ = Φ := hΦ
          have hρ : (K.more c k).ρ = K.ρ ++ takeD k (c.outs Φ K.ρ) := by simp only [Ctx.more, hΦ]
          have h' : (share sg fuel (n + k) (nds.map fun m => (m.1.repl c n k, m.2.repl c n k)) (σ.repl c n k)).ok Φ pre leaf (K.more c k).ρ := by rw [hρ]; exact h
          obtain ⟨h1, δ, σ', h2, h3⟩ := share_ok (K := K.more c k) hΦ' (by rw [hρ]; simp [hn]) h'
          refine ⟨fun m hm => ?_, takeD k (c.outs Φ K.ρ) ++ δ, σ', ?_, fun gh a w hI => ?_⟩
          · cases hm with
            | head => rw [hΦ]; exact h0
            | tail _ hm =>
              have hbm := List.all_eq_true.1 hb2 m hm
              simp only [Bool.and_eq_true] at hbm
              have := h1 _ (List.mem_map_of_mem hm)
              intro hg
              refine (Nd.repl_holds (Φ := K.Φ) (c := c) (k := k) hn hbm.2).1 (this ?_)
              show ((m.1.repl c n k).d K.Φ (K.ρ ++ takeD k (c.outs K.Φ K.ρ))).bool = true
              rw [(X.repl_d hn m.1 hbm.1).1]
              exact hg
          · rw [hρ, List.append_assoc] at h2
            exact h2
          · have := h3 gh a w (hI.share hn hb1)
            have e : ({ K.more c k with ρ := (K.more c k).ρ ++ δ } : Ctx) = { K with ρ := K.ρ ++ (takeD k (c.outs Φ K.ρ) ++ δ) } := by
              simp only [Ctx.more, hΦ, List.append_assoc]
            rw [e] at this
            exact this
        · exact h.elim
end
end Go.RV
namespace Go.RV
open Go.RowKit
section
variable {P : Program} {K : Ctx} {σ : St} {gh : Gh} {a : Act} {w : World} {sg : FuncId → Option Sig}
theorem Inv.retell (h : Inv K σ gh a w) {n : Nat} {s : SV} (hs : SV.rel K.Φ K.ρ w gh s (a.tmps.getD n undef)) : Inv K ⟨σ.slots.set n s, σ.res⟩ gh a w := by
  refine ⟨h.defers, by simp [h.size], fun m t ht => ?_, h.kept, h.os, h.tape, h.output, h.grow, h.pr, h.prlt, h.Flt, h.beta, h.vr0, h.res, h.own, h.inj, h.le0, h.Fpr⟩
  simp only [List.getElem?_set] at ht
  split at ht
  · rename_i e
    subst e
    split at ht
    · simp only [Option.some.injEq] at ht
      subst ht
      exact hs
    · cases ht
  · exact h.slot m t ht
theorem Inv.recell (h : Inv K σ gh a w) {r : Nat} {g : X} {ety : TypeId} {cells cells' : List SC} {z : Bool} (hx : σ.has r ⟨g, .box ety cells z⟩) (hg : (g.d K.Φ K.ρ).bool = true)
    (hc : ∀ vs, relS K.Φ K.ρ w gh cells vs → relS K.Φ K.ρ w gh cells' vs) : Inv K ⟨σ.slots, σ.res.set r (some ⟨g, .box ety cells' z⟩)⟩ gh a w := by
  have hlt : r < σ.res.length := (List.getElem?_eq_some_iff.1 hx).1
  have hlive : (RK.box ety cells' z).live gh r = (RK.box ety cells z).live gh r := by cases z <;> rfl
  refine h.step (T := fun q => q = r) ⟨Gh.le.refl gh, rfl, rfl, rfl, Nat.le_refl _, fun q hq => ⟨by simp [Ne.symm hq], rfl, rfl, rfl⟩, fun _ _ _ => rfl, h.Flt, fun b hb => .inl hb,
    fun q y hT hy hony => ?_, fun q y b hT hy hony hl => ?_, fun q y q' y' c hT hT' _ _ _ _ _ _ => hT.trans hT'.symm, fun q b hT hb => ?_, fun q hT hr => ?_⟩
  · subst hT
    rw [getElem?_set_has hlt] at hy
    simp only [Option.some.injEq] at hy
    subst hy
    obtain ⟨b, cur, h1, h2, h3, h4⟩ := h.res q _ hx hg
    exact ⟨b, cur, h1, h2, hc _ h3, h4⟩
  · subst hT
    rw [getElem?_set_has hlt] at hy
    simp only [Option.some.injEq] at hy
    subst hy
    rw [hlive] at hl
    obtain ⟨o1, o2, o3⟩ := h.own q _ b hx hg hl
    exact ⟨o1, o2, o3, fun r2 x2 hT2 hx2 hon2 hl2 => hT2 (h.inj r2 x2 q _ b hx2 hon2 hx hg hl2 hl)⟩
  · subst hT
    exact ⟨_, getElem?_set_has hlt, hg⟩
  · subst hT
    exact ⟨_, getElem?_set_has hlt, hg⟩
theorem relS_set {Φ : FuncId → List D → List D} {ρ : List D} : ∀ {cs : List SC} {vs : List Value} {off : Nat} {c : SC}, relS Φ ρ w gh cs vs → (∀ s, cs[off]? = some s → SC.rel Φ ρ w gh c (vs.getD off undef)) → relS Φ ρ w gh (cs.set off c) vs
  | [], [], _, _, h, _ => h
  | s :: cs, v :: vs, 0, c, h, hc => ⟨by simpa using hc s rfl, h.2⟩
  | s :: cs, v :: vs, off + 1, c, h, hc => ⟨h.1, relS_set h.2 (fun t ht => by simpa using hc t (by simpa using ht))⟩
  | [], _ :: _, _, _, h, _ => h.elim
  | _ :: _, [], _, _, h, _ => h.elim
theorem nilRow (h : Inv K σ gh a w) (e : TypeId) (cts : List CT) : ∃ gh', Inv K ⟨σ.slots, σ.res ++ [some ⟨tt, .row e cts .lnil 1 false⟩]⟩ gh' a w ∧ gh.le gh' ∧ gh'.rv σ.res.length = .slice none 0 0 ∧ gh'.vr σ.res.length = 1 := by
  have h1 := h.addRes 1
  obtain ⟨gh', hI, hle, hrv, hvr, _⟩ := row_step (w' := w) h1 (r := σ.res.length) (by simp) (ob := none) (fun b hb => by cases hb) (ver := 1) (by rw [new_ver0 h1 (by simp)]; omega) (g := tt) rfl
    ⟨rfl, rfl, rfl, Nat.le_refl _, fun _ _ _ => rfl⟩ (e := e) (cts := cts) (content := .lnil) (xs := []) rfl (v := .slice none 0 0) (vals := []) (.inl ⟨rfl, rfl, _, rfl⟩) (fun i hi => by simp at hi) (fun b hb => by cases hb)
  refine ⟨gh', ?_, hle, hrv, hvr⟩
  simpa using hI
theorem nilAt_ok (h : Inv K σ gh a w) {p : Nat × Option Nat} {e : TypeId} {cts : List CT} {σ' : St} (hn : nilAt σ p e cts = some σ') : ∃ gh', Inv K σ' gh' a w ∧ gh.le gh' := by
  obtain ⟨gh', hI, hle, hrv, hvr⟩ := nilRow h e cts
  obtain ⟨n, q⟩ := p
  cases q with
  | none =>
    simp only [nilAt] at hn
    split at hn
    · rename_i hs
      simp only [Option.some.injEq] at hn
      subst hn
      have hv : a.tmps.getD n undef = .slice none 0 0 := by
        have := h.opd (.tmp n)
        simp only [St.opd, hs] at this
        exact this.1
      refine ⟨gh', hI.retell (n := n) (s := .c (.row σ.res.length 1)) ?_, hle⟩
      rw [hv]
      exact ⟨⟨_, _, _, rfl⟩, Nat.le_refl _, by rw [hvr]; exact Nat.le_refl _, fun _ => hrv.symm⟩
    · cases hn
  | some off =>
    simp only [nilAt] at hn
    split at hn
    · rename_i g ety cells hx
      split at hn
      · rename_i hc
        split at hn
        · rename_i hg
          simp only [Option.some.injEq] at hn
          subst hn
          have hxh : σ.has n ⟨g, .box ety cells false⟩ := getD_has hx
          have hnl : n < σ.res.length := (List.getElem?_eq_some_iff.1 hxh).1
          have hxh' : (⟨σ.slots, σ.res ++ [some ⟨tt, .row e cts .lnil 1 false⟩]⟩ : St).has n ⟨g, .box ety cells false⟩ := by
            unfold St.has at hxh ⊢
            rw [List.getElem?_append_left hnl]; exact hxh
          have h2 := hI.recell hxh' (isTt_sound hg) (cells' := cells.set off (.row σ.res.length 1)) fun vs hr => relS_set hr fun s hs => by
            rw [hc] at hs
            simp only [Option.some.injEq] at hs
            subst hs
            have := relS_get hr hc
            rw [this.1]
            exact ⟨⟨_, _, _, rfl⟩, Nat.le_refl _, by rw [hvr]; exact Nat.le_refl _, fun _ => hrv.symm⟩
          refine ⟨gh', ?_, hle⟩
          rw [List.set_append_left _ _ hnl] at h2
          exact h2
        · cases hn
      · cases hn
    · cases hn
theorem nilsAt_ok : ∀ {ps : List (Nat × Option Nat × TypeId)} {σ : St} {gh : Gh} {σ' : St}, Inv K σ gh a w → nilsAt P ps σ = some σ' → ∃ gh', Inv K σ' gh' a w ∧ gh.le gh'
  | [], σ, gh, σ', h, hn => by
    simp only [nilsAt, Option.some.injEq] at hn
    subst hn
    exact ⟨gh, h, Gh.le.refl gh⟩
  | p :: ps, σ, gh, σ', h, hn => by
    unfold nilsAt at hn
    split at hn
    · split at hn
      · rename_i σ1 h1
        obtain ⟨gh1, hI, hle⟩ := nilAt_ok h h1
        obtain ⟨gh2, hI2, hle2⟩ := nilsAt_ok hI hn
        exact ⟨gh2, hI2, hle.trans hle2⟩
      · cases hn
    · cases hn
theorem OT.ok_bind {Φ : FuncId → List D → List D} {pre : FuncId → List D → Prop} {leaf : List D → EK → St → Prop} {f : EK → Nat → St → OT} : ∀ {t : OT} {n : Nat} {ρ : List D}, n = ρ.length → (t.bind n f).ok Φ pre leaf ρ → t.ok Φ pre (fun ρ' k σ => (f k ρ'.length σ).ok Φ pre leaf ρ') ρ
  | .fin _ _, n, ρ, hn, h => by subst hn; exact h
  | .need _ _ _, n, ρ, hn, h => ⟨h.1, OT.ok_bind hn h.2⟩
  | .ite c x y, n, ρ, hn, h => by
    unfold OT.bind OT.ok at h
    unfold OT.ok
    split
    · rename_i hc; rw [if_pos hc] at h; exact OT.ok_bind hn h
    · rename_i hc; rw [if_neg hc] at h; exact OT.ok_bind hn h
  | .lt c k t, n, ρ, hn, h => by
    unfold OT.bind OT.ok at h
    unfold OT.ok
    exact OT.ok_bind (by simp [hn]) h
  | .fail, _, _, _, h => h
def EK.out : EK → Exit
  | .normal => .normal
  | .exit id => .exit id
  | .ret => .ret
def LoopMeets (P : Program) (Φ : FuncId → List D → List D) (pre : List D → Prop) (L : LoopSig) (body : Code) : Prop :=
  ∀ (K : Ctx) (gh : Gh) (a : Act) (w : World) (Q : Exit → Act → World → Prop), K.Φ = Φ → K.wok = (fun n => L.ws.contains n) → K.ρ.length = L.nv → pre K.ρ → Inv K L.head gh a w →
    (∀ (ρf : List D) (gh' : Gh) (a' : Act) (w' : World) (k : EK) (vals : List D) (j : Nat), Φ L.key K.ρ = .i j :: vals → L.exits[j]? = some k → ρf = setVars K.ρ L.wv vals → Inv { K with ρ := ρf, gh0 := gh' } L.head gh' a' w' → LoopLe L K.Pr gh gh' → Q k.out a' w') →
    (Code.loop body).wp P Q a w
theorem exitsOT_ok {Φ : FuncId → List D → List D} {ρ : List D} {pre : FuncId → List D → Prop} {leaf : List D → EK → St → Prop} {c : X} {τ : St} : ∀ {es : List EK} {k0 : Nat}, (exitsOT c τ k0 es).ok Φ pre leaf ρ → ∀ {j : Nat} {k : EK}, (c.d Φ ρ).int = ((k0 + j : Nat) : Int) → es[j]? = some k → leaf ρ k τ
  | [], _, h, _, _, _, _ => h.elim
  | [e], k0, h, j, k, hc, hk => by
    cases j with
    | zero => simp only [List.getElem?_cons_zero, Option.some.injEq] at hk; subst hk; exact h
    | succ j => simp at hk
  | e :: e2 :: es, k0, h, j, k, hc, hk => by
    unfold exitsOT OT.ok at h
    simp only [X.d, Op2.ev, D.bool_b, D.int_i, beq_iff_eq, hc] at h
    cases j with
    | zero =>
      simp only [List.getElem?_cons_zero, Option.some.injEq] at hk
      subst hk
      rw [if_pos (by simp)] at h
      exact h
    | succ j =>
      rw [if_neg (by omega)] at h
      exact exitsOT_ok h (j := j) (by rw [hc]; congr 1; omega) (by simpa using hk)
theorem Inv.rebase (h : Inv K σ gh a w) : Inv { K with gh0 := gh } σ gh a w :=
  ⟨h.defers, h.size, h.slot, h.kept, h.os, h.tape, h.output, h.grow, h.pr, h.prlt, h.Flt, h.beta, h.vr0, h.res, h.own, h.inj, Gh.le.refl gh, fun _ hb => .inl hb⟩
theorem loopEx_ok {lt : Nat → Option LoopSig} {pre : FuncId → List D → Prop} {body : Code} (hloop : ∀ L, (firstRegion body).bind lt = some L → LoopMeets P K.Φ (pre L.key) L body) {Q : Exit → Act → World → Prop} {leaf : List D → EK → St → Prop} {n : Nat} (hn : n = K.ρ.length)
    (h : Inv K σ gh a w) (ht : (loopEx P K.wok lt body n σ).ok K.Φ pre leaf K.ρ) (hQ : ∀ k σ' gh' a' w' δ, leaf (K.ρ ++ δ) k σ' → Inv { K with ρ := K.ρ ++ δ } σ' gh' a' w' → Q k.out a' w') : (Code.loop body).wp P Q a w := by
  unfold loopEx at ht
  split at ht
  · exact ht.elim
  · rename_i L hL
    split at ht
    · exact ht.elim
    · rename_i σ1 hnl
      split at ht
      · exact ht.elim
      · rename_i args hm
        simp only at ht
        split at ht
        · rename_i hws
          simp only [Bool.and_eq_true] at hws
          obtain ⟨⟨hws, hcb⟩, hsb⟩ := hws
          obtain ⟨hp, ht⟩ := ht
          have hp := hp rfl
          simp only [Nd.holds, ds_consX] at hp
          obtain ⟨gh1, h1, hle1⟩ := nilsAt_ok h hnl
          have hI := loop_enter h1 hm
          obtain ⟨l, m, hk⟩ := match_ok hm
          refine hloop L hL (loopCtx K L args σ1 gh1 a w) _ a w Q rfl rfl (by simp [loopCtx, hk.len]) hp hI fun ρf gh' a' w' k vals j hfn hex hρf hI' hle => ?_
          obtain ⟨h2, _⟩ := loop_leave h1 hm hws (K' := { loopCtx K L args σ1 gh1 a w with ρ := ρf, gh0 := gh' }) (code := .i j) (vals := vals) rfl hρf rfl rfl rfl rfl hI' hle hfn
          have h3 := h2.share (c := .app L.key (consX args) 0) (k := L.wv.length + 1) hn hsb
          have hfn' : K.Φ L.key (args.map (X.d K.Φ K.ρ)) = .i j :: vals := hfn
          have hc : ((X.var n).d K.Φ (K.ρ ++ takeD (L.wv.length + 1) ((X.app L.key (consX args) 0).outs K.Φ K.ρ))).int = ((0 + j : Nat) : Int) := by
            have := repl_var (Φ := K.Φ) (k := L.wv.length + 1) hn (out := (X.app L.key (consX args) 0).outs K.Φ K.ρ) (j := 0) (by omega)
            have ev : X.var n = X.var (n + 0) := rfl
            rw [ev, this]
            simp only [X.outs, ds_consX, hfn', List.getD_cons_zero, D.int_i, Nat.zero_add]
          exact hQ k _ _ _ _ _ (exitsOT_ok ht hc hex) h3
        · exact ht.elim
theorem Exit.then_out {Kn : Act → World → Prop} {Q : Exit → Act → World → Prop} {k : EK} (h : k ≠ .normal) : Exit.then Kn Q k.out = Q k.out := by
  cases k with
  | normal => exact absurd rfl h
  | exit id => rfl
  | ret => rfl
theorem ex_ok {lt : Nat → Option LoopSig} {pre : FuncId → List D → Prop} {Φ : FuncId → List D → List D} {wok : Nat → Bool} (hmx : P.follows .mixedOrders = true) (hM : ∀ f S, sg f = some S → MeetsAt P f S pre Φ) :
    ∀ (c : Code) (_ : ∀ b ∈ Code.loops c, ∀ L, (firstRegion b).bind lt = some L → LoopMeets P Φ (pre L.key) L b) {K : Ctx} {σ : St} {gh : Gh} {a : Act} {w : World} {Q : Exit → Act → World → Prop} {leaf : List D → EK → St → Prop} {n : Nat},
      K.Φ = Φ → K.wok = wok → n = K.ρ.length → Inv K σ gh a w → (ex P sg wok lt c n σ).ok Φ pre leaf K.ρ → (∀ k σ' gh' a' w' δ, leaf (K.ρ ++ δ) k σ' → Inv { K with ρ := K.ρ ++ δ } σ' gh' a' w' → Q k.out a' w') → c.wp P Q a w := by
  intro c
  induction c with
  | skip =>
    intro _ K σ gh a w Q leaf n hΦ hwok hn h ht hQ
    exact wp_skip (hQ .normal σ gh a w [] (by rw [List.append_nil]; exact ht) (by rw [List.append_nil]; exact h))
  | region id ops draw =>
    intro _ K σ gh a w Q leaf n hΦ hwok hn h ht hQ
    unfold ex at ht
    split at ht
    · rename_i σ' nd hr
      obtain ⟨hnd, δ, σ2, h1, h2⟩ := share_ok hΦ hn ht
      rw [← hwok] at hr
      exact region_ok h hr hmx (by rw [hΦ]; exact hM) hnd fun gh' a' w' h' => hQ .normal σ2 gh' a' w' δ h1 (h2 gh' a' w' h')
    · exact ht.elim
  | seq x y ihx ihy =>
    intro hl K σ gh a w Q leaf n hΦ hwok hn h ht hQ
    unfold ex at ht
    refine wp_seq (ihx (fun b hb => hl b (by simp [Code.loops, hb])) hΦ hwok hn h (OT.ok_bind hn ht) fun k σ' gh' a' w' δ hk h' => ?_)
    cases k with
    | normal =>
      refine ihy (fun b hb => hl b (by simp [Code.loops, hb])) (K := { K with ρ := K.ρ ++ δ }) hΦ hwok rfl h' hk fun k2 σ2 gh2 a2 w2 δ2 hk2 h2 => ?_
      have e : (({ K with ρ := K.ρ ++ δ } : Ctx).ρ ++ δ2) = K.ρ ++ (δ ++ δ2) := List.append_assoc ..
      rw [e] at hk2 h2
      exact hQ k2 σ2 gh2 a2 w2 _ hk2 h2
    | exit id => exact hQ (.exit id) σ' gh' a' w' δ hk h'
    | ret => exact hQ .ret σ' gh' a' w' δ hk h'
  | cond c x y ihx ihy =>
    intro hl K σ gh a w Q leaf n hΦ hwok hn h ht hQ
    unfold ex at ht
    have hc := h.opd c
    split at ht
    · rename_i e he
      rw [he] at hc
      obtain ⟨hv, _⟩ := rep_bool hc
      refine wp_cond hv ?_
      split at ht
      · simp only [X.d, D.bool_b, if_true]
        exact ihx (fun b hb => hl b (by simp [Code.loops, hb])) hΦ hwok hn h ht hQ
      · simp only [X.d, D.bool_b, Bool.false_eq_true, if_false]
        exact ihy (fun b hb => hl b (by simp [Code.loops, hb])) hΦ hwok hn h ht hQ
      · unfold OT.ok at ht
        rw [← hΦ] at ht
        split
        · rename_i hb
          rw [if_pos hb] at ht
          exact ihx (fun b hb => hl b (by simp [Code.loops, hb])) hΦ hwok hn h (by rw [← hΦ]; exact ht) hQ
        · rename_i hb
          rw [if_neg hb] at ht
          exact ihy (fun b hb => hl b (by simp [Code.loops, hb])) hΦ hwok hn h (by rw [← hΦ]; exact ht) hQ
    · exact ht.elim
  | block id x ihx =>
    intro hl K σ gh a w Q leaf n hΦ hwok hn h ht hQ
    unfold ex at ht
    refine wp_block (ihx hl hΦ hwok hn h (OT.ok_bind hn ht) fun k σ' gh' a' w' δ hk h' => ?_)
    split at hk
    · rename_i e
      subst e
      show (if id = id then Q .normal a' w' else Q (.exit id) a' w')
      rw [if_pos rfl]
      exact hQ .normal σ' gh' a' w' δ hk h'
    · rename_i e
      have := hQ k σ' gh' a' w' δ hk h'
      cases k with
      | normal => exact this
      | ret => exact this
      | exit id' =>
        show (if id' = id then Q .normal a' w' else Q (.exit id') a' w')
        rw [if_neg (by rintro rfl; exact e rfl)]
        exact this
  | loop x ihx =>
    intro hl K σ gh a w Q leaf n hΦ hwok hn h ht hQ
    unfold ex at ht
    subst hΦ
    subst hwok
    exact loopEx_ok (hl x (by simp [Code.loops])) hn h ht hQ
  | exit id =>
    intro _ K σ gh a w Q leaf n hΦ hwok hn h ht hQ
    exact wp_exit (hQ (.exit id) σ gh a w [] (by rw [List.append_nil]; exact ht) (by rw [List.append_nil]; exact h))
  | ret =>
    intro _ K σ gh a w Q leaf n hΦ hwok hn h ht hQ
    exact wp_ret (hQ .ret σ gh a w [] (by rw [List.append_nil]; exact ht) (by rw [List.append_nil]; exact h))
  | rangeFunc f ps as b iha ihb =>
    intro _ _ _ _ _ _ _ _ _ _ _ _ _ ht _
    exact ht.elim
  | refuse =>
    intro _ _ _ _ _ _ _ _ _ _ _ _ _ ht _
    exact ht.elim
  | scope x ihx =>
    intro _ _ _ _ _ _ _ _ _ _ _ _ _ ht _
    exact ht.elim
  | goto l =>
    intro _ _ _ _ _ _ _ _ _ _ _ _ _ ht _
    exact ht.elim
  | label l =>
    intro _ _ _ _ _ _ _ _ _ _ _ _ _ ht _
    exact ht.elim
def VT.ok (Φ : FuncId → List D → List D) (ρ : List D) (pre : FuncId → List D → Prop) (leaf : List D → Prop) : VT → Prop
  | .ret as => leaf (as.ds Φ ρ)
  | .need g n t => ((g.d Φ ρ).bool = true → n.holds pre Φ ρ) ∧ VT.ok Φ ρ pre leaf t
  | .ite c x y => if (c.d Φ ρ).bool = true then VT.ok Φ ρ pre leaf x else VT.ok Φ ρ pre leaf y
  | .lt c k t => VT.ok Φ (ρ ++ takeD k (c.outs Φ ρ)) pre leaf t
  | .bad => False
theorem OT.ok_vt {Φ : FuncId → List D → List D} {pre : FuncId → List D → Prop} {leafV : EK → St → VT} {leaf : List D → Prop} : ∀ {t : OT} {ρ : List D}, (t.vt leafV).ok Φ ρ pre leaf → t.ok Φ pre (fun ρ' k σ => (leafV k σ).ok Φ ρ' pre leaf) ρ
  | .fin _ _, _, h => h
  | .need _ _ _, _, h => ⟨h.1, OT.ok_vt h.2⟩
  | .ite c x y, ρ, h => by
    unfold OT.vt VT.ok at h
    unfold OT.ok
    split
    · rename_i hc; rw [if_pos hc] at h; exact OT.ok_vt h
    · rename_i hc; rw [if_neg hc] at h; exact OT.ok_vt h
  | .lt c k t, ρ, h => by
    unfold OT.vt VT.ok at h
    unfold OT.ok
    exact OT.ok_vt h
  | .fail, _, h => h
theorem wp_loop_ghost {α : Type} {c : Code} {Q : Exit → Act → World → Prop} (I : α → Act → World → Prop) (μ : α → Nat) {x : α} (h0 : I x a w)
    (round : ∀ x a w, I x a w → c.wp P (Exit.then (fun a' w' => ∃ x', I x' a' w' ∧ μ x' < μ x) Q) a w) : (Code.loop c).wp P Q a w := by
  have least : ∀ a w, (∃ x, I x a w) → ∃ x, I x a w ∧ ∀ y, I y a w → μ x ≤ μ y := by
    intro a w ⟨x, hx⟩
    have : ∀ n x, μ x = n → I x a w → ∃ x, I x a w ∧ ∀ y, I y a w → μ x ≤ μ y := by
      intro n
      induction n using Nat.strongRecOn with
      | _ n ih =>
        intro x hn hx
        by_cases hy : ∃ y, I y a w ∧ μ y < μ x
        · obtain ⟨y, hy1, hy2⟩ := hy
          exact ih (μ y) (by omega) y rfl hy1
        · refine ⟨x, hx, fun y hy1 => ?_⟩
          apply Nat.le_of_not_lt
          intro hlt
          exact hy ⟨y, hy1, hlt⟩
    exact this _ x rfl hx
  let M : Act → World → Nat := fun a w => open Classical in if h : ∃ x, I x a w then μ (Classical.choose (least a w h)) else 0
  refine wp_loop (fun a w => ∃ x, I x a w) M ⟨x, h0⟩ fun a w ⟨x, hx⟩ => ?_
  have hex : ∃ x, I x a w := ⟨x, hx⟩
  obtain ⟨h1, h2⟩ := Classical.choose_spec (least a w hex)
  have hM : M a w = μ (Classical.choose (least a w hex)) := dif_pos hex
  refine wp_mono (round _ a w h1) fun e a' w' he => ?_
  cases e with
  | normal =>
    obtain ⟨x', hx', hlt⟩ := he
    refine ⟨⟨x', hx'⟩, ?_⟩
    have hex' : ∃ x, I x a' w' := ⟨x', hx'⟩
    obtain ⟨h3, h4⟩ := Classical.choose_spec (least a' w' hex')
    have hM' : M a' w' = μ (Classical.choose (least a' w' hex')) := dif_pos hex'
    rw [hM, hM']
    exact Nat.lt_of_le_of_lt (h4 x' hx') hlt
  | _ => exact he
theorem setVars_again (ρ : List D) (wv : List Nat) (v1 v2 : List D) : setVars (setVars ρ wv v1) wv v2 = setVars ρ wv v2 := by
  apply List.ext_getElem
  · simp [setVars_length]
  · intro i h1 h2
    have hi : i < ρ.length := by rw [setVars_length] at h2; exact h2
    have e1 := setVars_get (setVars ρ wv v1) wv v2 (i := i) (by rw [setVars_length]; exact hi)
    have e2 := setVars_get ρ wv v2 hi
    have e3 := setVars_get ρ wv v1 hi
    have g1 : (setVars (setVars ρ wv v1) wv v2).getD i default = (setVars (setVars ρ wv v1) wv v2)[i] := by simp [List.getD, h1]
    have g2 : (setVars ρ wv v2).getD i default = (setVars ρ wv v2)[i] := by simp [List.getD, h2]
    rw [← g1, ← g2, e1, e2]
    cases hp : posIn i wv with
    | some j => rfl
    | none => simp only; rw [e3, hp]
theorem posIn_none : ∀ {wv : List Nat} {i : Nat}, posIn i wv = none → wv.contains i = false
  | [], _, _ => rfl
  | k :: wv, i, h => by
    unfold posIn at h
    split at h
    · cases h
    · rename_i e
      cases hp : posIn i wv with
      | some j => rw [hp] at h; cases h
      | none =>
        have := posIn_none hp
        simp only [beq_iff_eq] at e
        simp only [List.contains_cons, this, Bool.or_false]
        simp
        exact fun e' => e e'.symm
theorem sameVars_get {wv : List Nat} : ∀ {xs : List X} {i : Nat}, sameVars wv i xs = true → ∀ j, j < xs.length → wv.contains (i + j) = true ∨ xs.getD j .nil = .var (i + j)
  | [], _, _, j, hj => by simp at hj
  | x :: xs, i, h, j, hj => by
    simp only [sameVars, Bool.and_eq_true, Bool.or_eq_true] at h
    cases j with
    | zero =>
      rcases h.1 with h1 | h1
      · exact .inl h1
      · exact .inr (by simpa using X.beq_eq _ _ h1)
    | succ j =>
      have := sameVars_get h.2 j (by simpa using hj)
      have e : i + 1 + j = i + (j + 1) := by omega
      rw [e] at this
      simpa using this
theorem sameRows_get {L : LoopSig} {τ : St} : ∀ {rs : List (Option Res)} {r0 : Nat}, sameRows L τ r0 rs = true → ∀ (r : Nat) g e c i v z, rs[r]? = some (some ⟨g, .row e c (.var i) v z⟩) → L.hv.contains i = true ∨ ∃ g' e' c' x' z', τ.res.getD (r0 + r) none = some ⟨g', .row e' c' x' v z'⟩
  | [], _, _, r, g, e, c, i, v, z, hr => by simp at hr
  | y :: rs, r0, h, r, g, e, c, i, v, z, hr => by
    have tail : sameRows L τ (r0 + 1) rs = true := by
      unfold sameRows at h
      split at h
      · contradiction
      · rename_i e
        simp only [List.cons.injEq] at e
        obtain ⟨_, rfl⟩ := e
        simp only [Bool.and_eq_true] at h
        exact h.2
      · rename_i e
        simp only [List.cons.injEq] at e
        obtain ⟨_, rfl⟩ := e
        exact h
    cases r with
    | zero =>
      simp only [List.getElem?_cons_zero, Option.some.injEq] at hr
      subst hr
      simp only [sameRows, Bool.and_eq_true, Bool.or_eq_true] at h
      rcases h.1 with h1 | h1
      · exact .inl h1
      · refine .inr ?_
        split at h1
        · rename_i g' e' c' x' v' z' hx
          simp only [beq_iff_eq] at h1
          subst h1
          exact ⟨_, _, _, _, _, hx⟩
        · cases h1
    | succ r =>
      have := sameRows_get tail r g e c i v z (by simpa using hr)
      have e : r0 + 1 + r = r0 + (r + 1) := by omega
      rw [e] at this
      exact this
theorem ekPos_get : ∀ {es : List EK} {k : EK} {j : Nat}, ekPos k es = some j → es[j]? = some k
  | [], _, _, h => by simp [ekPos] at h
  | e :: es, k, j, h => by
    unfold ekPos at h
    split at h
    · rename_i e1
      simp only [Option.some.injEq] at h
      subst h e1
      rfl
    · cases hp : ekPos k es with
      | none => rw [hp] at h; cases h
      | some j' =>
        rw [hp] at h
        simp only [Option.map_some, Option.some.injEq] at h
        subst h
        simpa using ekPos_get hp
def RoundOk (Φ : FuncId → List D → List D) (pre : List D → Prop) (μ : List D → Nat) (L : LoopSig) (ρ : List D) : List D → Prop
  | .i c :: vals => if c = -1 then pre (setVars ρ L.wv vals) ∧ μ (setVars ρ L.wv vals) < μ ρ ∧ Φ L.key (setVars ρ L.wv vals) = Φ L.key ρ else Φ L.key ρ = .i c :: vals
  | _ => False
theorem loop_meets0 {Φ : FuncId → List D → List D} {lt : Nat → Option LoopSig} {pre : FuncId → List D → Prop} (hmx : P.follows .mixedOrders = true) (hM : ∀ f S, sg f = some S → MeetsAt P f S pre Φ) {body : Code}
    (hl : ∀ b ∈ Code.loops body, ∀ L, (firstRegion b).bind lt = some L → LoopMeets P Φ (pre L.key) L b) (L : LoopSig) (μ : List D → Nat) {vt : VT} (hvt : loopVT P sg lt L body = vt)
    (h : ∀ ρ, ρ.length = L.nv → pre L.key ρ → vt.ok Φ ρ pre (RoundOk Φ (pre L.key) μ L ρ)) : LoopMeets P Φ (pre L.key) L body := by
  intro K gh a w Q hΦ hwok hlen hpre hI hQ
  let I : List D → Act → World → Prop := fun ρ a w => ρ.length = L.nv ∧ pre L.key ρ ∧ (∀ vals, setVars ρ L.wv vals = setVars K.ρ L.wv vals) ∧ Φ L.key ρ = Φ L.key K.ρ ∧ ∃ gh', Inv { K with ρ := ρ, gh0 := gh' } L.head gh' a w ∧ LoopLe L K.Pr gh gh'
  refine wp_loop_ghost I μ (x := K.ρ) ⟨hlen, hpre, fun _ => rfl, rfl, gh, hI.rebase, LoopLe.refl gh⟩ fun ρ a w ⟨i1, i2, i3, i4, gh', hI', hle⟩ => ?_
  have ht := h ρ i1 i2
  rw [← hvt] at ht
  unfold loopVT at ht
  have hwok' : ({ K with ρ := ρ, gh0 := gh' } : Ctx).wok = (fun n => L.ws.contains n) := hwok
  have ht2 := OT.ok_vt ht
  refine ex_ok (K := { K with ρ := ρ, gh0 := gh' }) hmx hM body hl hΦ hwok' i1.symm hI' ht2 fun k τ gh2 a2 w2 δ hk hI2 => ?_
  rw [← hΦ] at hk
  unfold loopLeaf at hk
  obtain ⟨gh2, hI2⟩ := alignRows_ok L.head hI2
  generalize alignRows L.head τ = τ at hk hI2
  unfold loopLeaf0 at hk
  split at hk
  · exact hk.elim
  · rename_i args hm
    split at hk
    · rename_i hc
      simp only [Bool.and_eq_true] at hc
      obtain ⟨hsv, hsr⟩ := hc
      obtain ⟨l, m, hmo⟩ := match_ok hm
      let vals : List D := (consX (L.wv.map fun i => args.getD i .nil)).ds K.Φ (ρ ++ δ)
      have hvals : vals = L.wv.map fun i => (args.getD i .nil).d K.Φ (ρ ++ δ) := by
        have := ds_consX (K := { K with ρ := ρ ++ δ, gh0 := gh' }) (L.wv.map fun i => args.getD i .nil)
        simp only at this
        show (consX _).ds K.Φ (ρ ++ δ) = _
        rw [this, List.map_map]
        rfl
      have hρ2 : args.map (X.d K.Φ (ρ ++ δ)) = setVars ρ L.wv vals := by
        apply List.ext_getElem
        · rw [setVars_length, List.length_map, hmo.len, i1]
        · intro i h1 h2
          have hi : i < ρ.length := by rw [setVars_length] at h2; exact h2
          have hi' : i < args.length := by simpa using h1
          have g2 : (setVars ρ L.wv vals).getD i default = (setVars ρ L.wv vals)[i] := by simp [List.getD, h2]
          rw [← g2, setVars_get ρ L.wv vals hi, List.getElem_map]
          have hai : args.getD i .nil = args[i] := by simp [List.getD, hi']
          cases hp : posIn i L.wv with
          | some j =>
            have hj := posIn_get hp
            simp only [hvals, List.getD, List.getElem?_map, hj, Option.map_some, Option.getD_some]
            simp [hi']
          | none =>
            have hn := posIn_none hp
            rcases sameVars_get hsv i hi' with h3 | h3
            · rw [Nat.zero_add, hn] at h3; cases h3
            · rw [Nat.zero_add, hai] at h3
              rw [h3]
              simp only [X.d, List.getD]
              rw [List.getElem?_append_left hi]
      have hI3 : ∀ g0, g0 = gh2.cut L.head.res → Inv { K with ρ := setVars ρ L.wv vals, gh0 := g0 } L.head g0 a2 w2 := by
        intro g0 hg0
        subst hg0
        exact match_inv hI2 hm (K' := { K with ρ := setVars ρ L.wv vals, gh0 := gh2.cut L.head.res }) rfl hρ2.symm rfl hI2.kept hI2.os hI2.tape hI2.output hI2.grow hI2.pr hI2.prlt fun r x b hl' hx hon hlive => (hI2.own r x b hx hon hlive).1
      have hle2 : LoopLe L K.Pr gh (gh2.cut L.head.res) := by
        refine hle.trans ⟨fun r b hb => ?_, hI2.le0.F, fun b hb => hI2.Fpr b hb, fun r g e cts i v z hx hn => ?_⟩
        · obtain ⟨x, hx, _⟩ := hI'.beta r b hb
          simp only [Gh.cut, listed_of hx, if_true]
          exact hI2.le0.β r b hb
        · have hx' : L.head.res[r]? = some (some ⟨g, .row e cts (.var i) v z⟩) := hx
          rcases sameRows_get hsr r g e cts i v z hx' with h3 | ⟨g', e', c', x', z', h3⟩
          · rw [hn] at h3; cases h3
          · rw [Nat.zero_add] at h3
            obtain ⟨y, l', h4, h5, h6, h7, _⟩ := (matchRess_get hmo.ress).2 r _ hx'
            have hy : y = ⟨g', .row e' c' x' v z'⟩ := by simp only [List.getD, h4] at h3; simpa using h3
            subst hy
            have ok2 := hI2.res r _ h4 (isTt_sound h6)
            have ok1 := hI'.res r _ hx (isTt_sound h5)
            exact hI2.le0.rv r (by rw [ok1.1]; exact ok1.2.1) (by rw [ok2.1, ok1.1])
      split at hk
      · rename_i hkn
        subst hkn
        simp only [VT.ok, X.ds, X.d] at hk
        have hk' : RoundOk K.Φ (pre L.key) μ L ρ (.i (-1) :: vals) := by
          exact hk
        simp only [RoundOk, if_true] at hk'
        obtain ⟨k1, k2, k3⟩ := hk'
        rw [hΦ] at k3
        refine ⟨setVars ρ L.wv vals, ⟨by rw [setVars_length, i1], k1, fun v => by rw [setVars_again, i3], by rw [k3, i4], gh2.cut L.head.res, hI3 _ rfl, hle2⟩, k2⟩
      · rename_i hkn
        split at hk
        · rename_i j hj
          rw [Exit.then_out hkn]
          simp only [VT.ok, X.ds, X.d] at hk
          have hk' : RoundOk K.Φ (pre L.key) μ L ρ (.i (j : Int) :: vals) := hk
          simp only [RoundOk] at hk'
          rw [if_neg (by omega), hΦ, i4] at hk'
          exact hQ (setVars ρ L.wv vals) (gh2.cut L.head.res) a2 w2 k vals j hk' (ekPos_get hj) (i3 vals) (hI3 _ rfl) hle2
        · exact hk.elim
    · exact hk.elim
end
end Go.RV
namespace Go.RV
open Go.RowKit
theorem X.d_ext {Φ : FuncId → List D → List D} {ρ δ : List D} {n : Nat} (hn : n = ρ.length) : ∀ e : X, e.under n = true → e.d Φ (ρ ++ δ) = e.d Φ ρ ∧ e.ds Φ (ρ ++ δ) = e.ds Φ ρ := by
  intro e
  induction e with
  | n z => exact fun _ => ⟨rfl, rfl⟩
  | t b => exact fun _ => ⟨rfl, rfl⟩
  | str s => exact fun _ => ⟨rfl, rfl⟩
  | nil => exact fun _ => ⟨rfl, rfl⟩
  | lnil => exact fun _ => ⟨rfl, rfl⟩
  | var i =>
    intro h
    refine ⟨?_, rfl⟩
    have hi : i < ρ.length := by rw [← hn]; simpa [X.under] using h
    simp only [X.d, List.getD]
    rw [List.getElem?_append_left hi]
  | cons a b iha ihb =>
    intro h
    simp only [X.under, Bool.and_eq_true] at h
    exact ⟨rfl, by simp only [X.ds, (iha h.1).1, (ihb h.2).2]⟩
  | lcons a b iha ihb =>
    intro h
    simp only [X.under, Bool.and_eq_true] at h
    exact ⟨by simp only [X.d, (iha h.1).2, (ihb h.2).1], rfl⟩
  | un o a iha =>
    intro h
    exact ⟨by simp only [X.d, (iha h).1], rfl⟩
  | bin o a b iha ihb =>
    intro h
    simp only [X.under, Bool.and_eq_true] at h
    exact ⟨by simp only [X.d, (iha h.1).1, (ihb h.2).1], rfl⟩
  | ite a b d iha ihb ihd =>
    intro h
    simp only [X.under, Bool.and_eq_true] at h
    exact ⟨by simp only [X.d, (iha h.1.1).1, (ihb h.1.2).1, (ihd h.2).1], rfl⟩
  | sel j a b iha ihb =>
    intro h
    simp only [X.under, Bool.and_eq_true] at h
    exact ⟨by simp only [X.d, (iha h.1).1, (ihb h.2).1], rfl⟩
  | sub a b d iha ihb ihd =>
    intro h
    simp only [X.under, Bool.and_eq_true] at h
    exact ⟨by simp only [X.d, (iha h.1.1).1, (ihb h.1.2).1, (ihd h.2).1], rfl⟩
  | snoc a b iha ihb =>
    intro h
    simp only [X.under, Bool.and_eq_true] at h
    exact ⟨by simp only [X.d, (iha h.1).1, (ihb h.2).2], rfl⟩
  | upd j a b d iha ihb ihd =>
    intro h
    simp only [X.under, Bool.and_eq_true] at h
    exact ⟨by simp only [X.d, (iha h.1.1).1, (ihb h.1.2).1, (ihd h.2).2], rfl⟩
  | rep a b iha ihb =>
    intro h
    simp only [X.under, Bool.and_eq_true] at h
    exact ⟨by simp only [X.d, (iha h.1).1, (ihb h.2).2], rfl⟩
  | nth a b iha ihb =>
    intro h
    simp only [X.under, Bool.and_eq_true] at h
    exact ⟨by simp only [X.d, (iha h.1).2, (ihb h.2).1], rfl⟩
  | app f as j iha =>
    intro h
    exact ⟨by simp only [X.d, (iha h).2], rfl⟩
  | dyn d as j ihd iha =>
    intro h
    simp only [X.under, Bool.and_eq_true] at h
    exact ⟨by simp only [X.d, (ihd h.1).1, (iha h.2).2], rfl⟩
  | pk a iha =>
    intro h
    exact ⟨by simp only [X.d, (iha h).2], rfl⟩
  | psel j a iha =>
    intro h
    exact ⟨by simp only [X.d, (iha h).1], rfl⟩
  | clo f t a iha =>
    intro h
    exact ⟨by simp only [X.d, (iha h).2], rfl⟩
def X.nn : X → X
  | .un .not a => match X.nn a with
    | .un .not b => b
    | .t b => .t (!b)
    | b => .un .not b
  | .ite a b c => .ite (X.nn a) (X.nn b) (X.nn c)
  | e => e
theorem X.nn_bool {Φ : FuncId → List D → List D} {ρ : List D} : ∀ e : X, ((X.nn e).d Φ ρ).bool = (e.d Φ ρ).bool := by
  intro e
  induction e with
  | un o a iha =>
    cases o with
    | not =>
      unfold X.nn
      split
      · rename_i b hb
        rw [hb] at iha
        simp only [X.d, Op1.ev, D.bool_b] at iha ⊢
        rw [← iha, Bool.not_not]
      · rename_i b hb
        rw [hb] at iha
        simp only [X.d, Op1.ev, D.bool_b] at iha ⊢
        rw [← iha]
      · simp only [X.d, Op1.ev, D.bool_b, iha]
    | _ => rfl
  | ite a b c iha ihb ihc =>
    simp only [X.nn, X.d, iha]
    split
    · exact ihb
    · exact ihc
  | _ => rfl
def Nd.beq : Nd → Nd → Bool
  | .c a, .c b => X.beq a b
  | .pre f a, .pre g b => f == g && X.beq a b
  | _, _ => false
theorem Nd.beq_eq : ∀ {a b : Nd}, Nd.beq a b = true → a = b
  | .c a, .c b, h => by rw [X.beq_eq _ _ h]
  | .pre f a, .pre g b, h => by
    simp only [Nd.beq, Bool.and_eq_true, beq_iff_eq] at h
    rw [h.1, X.beq_eq _ _ h.2]
  | .c _, .pre _ _, h => by cases h
  | .pre _ _, .c _, h => by cases h
  | .pg _ _ _, _, h => by cases h
  | .ct _ _ _, _, h => by cases h
  | .c _, .pg _ _ _, h => by cases h
  | .c _, .ct _ _ _, h => by cases h
  | .pre _ _, .pg _ _ _, h => by cases h
  | .pre _ _, .ct _ _ _, h => by cases h
def ndTriv : Nd → Bool
  | .c (.bin .le (.n a) (.n b)) => decide (a ≤ b)
  | .c (.bin .lt (.n a) (.n b)) => decide (a < b)
  | .c (.bin .le (.n z) (.un .len _)) => decide (z ≤ 0)
  | _ => false
theorem ndTriv_holds {Φ : FuncId → List D → List D} {ρ : List D} {pre : FuncId → List D → Prop} {d : Nd} (h : ndTriv d = true) : d.holds pre Φ ρ := by
  unfold ndTriv at h
  split at h
  · exact h
  · exact h
  · have h' := of_decide_eq_true h
    exact decide_eq_true (Int.le_trans h' (Int.natCast_nonneg _))
  · cases h
def X.conj : X → List X
  | .ite a b (.t false) => X.conj a ++ X.conj b
  | e => [e]
theorem X.conj_holds {Φ : FuncId → List D → List D} {ρ : List D} : ∀ {e : X}, (e.d Φ ρ).bool = true → ∀ c ∈ X.conj e, (c.d Φ ρ).bool = true := by
  intro e
  induction e with
  | ite a b c iha ihb ihc =>
    intro h x hx
    unfold X.conj at hx
    split at hx
    · rename_i a' b' he
      cases he
      simp only [X.d] at h
      split at h
      · rename_i ha
        rcases List.mem_append.1 hx with hx | hx
        · exact iha ha x hx
        · exact ihb h x hx
      · simp at h
    · simp only [List.mem_singleton] at hx
      subst hx
      exact h
  | _ =>
    intro h x hx
    simp only [X.conj, List.mem_singleton] at hx
    subst hx
    exact h
def X.disj : X → List X
  | .ite a (.t true) b => X.disj a ++ X.disj b
  | e => [e]
theorem X.disj_fails {Φ : FuncId → List D → List D} {ρ : List D} : ∀ {e : X}, (e.d Φ ρ).bool = false → ∀ c ∈ X.disj e, (c.d Φ ρ).bool = false := by
  intro e
  induction e with
  | ite a b c iha ihb ihc =>
    intro h x hx
    unfold X.disj at hx
    split at hx
    · rename_i a' b' he
      cases he
      simp only [X.d] at h
      split at h
      · simp at h
      · rename_i ha
        rcases List.mem_append.1 hx with hx | hx
        · exact iha (by simpa using ha) x hx
        · exact ihc h x hx
    · simp only [List.mem_singleton] at hx
      subst hx
      exact h
  | _ =>
    intro h x hx
    simp only [X.disj, List.mem_singleton] at hx
    subst hx
    exact h
def factsT (n : Nat) (c : X) : List (X × Nd) := ((X.conj c).filter (X.under n)).map fun e => (tt, .c e)
def factsF (n : Nat) (c : X) : List (X × Nd) := ((X.disj c).filter (X.under n)).map fun e => (tt, .c (X.nn (.un .not e)))
theorem X.nn_under {n : Nat} : ∀ {e : X}, e.under n = true → (X.nn e).under n = true := by
  intro e
  induction e with
  | un o a iha =>
    intro h
    cases o with
    | not =>
      have ha := iha h
      unfold X.nn
      split
      · rename_i b hb
        rw [hb] at ha
        exact ha
      · rfl
      · exact ha
    | _ => exact h
  | ite a b c iha ihb ihc =>
    intro h
    simp only [X.under, Bool.and_eq_true] at h
    simp only [X.nn, X.under, iha h.1.1, ihb h.1.2, ihc h.2, Bool.and_self]
  | _ => exact fun h => h
def knows (known : List (X × Nd)) (c : X) : Bool := known.any fun k => isTt k.1 && Nd.beq k.2 (.c c)
def eqConst (x : X) : List (X × Nd) → Option Int
  | [] => none
  | (g, .c (.bin .eq y (.n z))) :: ks => if isTt g && X.beq y x then some z else eqConst x ks
  | _ :: ks => eqConst x ks
def decAtom (known : List (X × Nd)) : X → Option Bool
  | .bin .eq x (.n z) => (eqConst x known).map fun k => k == z
  | .bin .le (.n z) x => (eqConst x known).map fun k => decide (z ≤ k)
  | .bin .le x (.n z) => (eqConst x known).map fun k => decide (k ≤ z)
  | .bin .lt (.n z) x => (eqConst x known).map fun k => decide (z < k)
  | .bin .lt x (.n z) => (eqConst x known).map fun k => decide (k < z)
  | _ => none
def decIte : Option Bool → Option Bool → Option Bool → Option Bool
  | some true, b, _ => b
  | some false, _, c => c
  | none, some u, some v => if u == v then some u else none
  | none, _, _ => none
theorem decIte_sound {x y z : D} {a b c : Option Bool} {r : Bool} (ha : ∀ u, a = some u → x.bool = u) (hb : ∀ u, b = some u → y.bool = u) (hc : ∀ u, c = some u → z.bool = u) (h : decIte a b c = some r) : (if x.bool = true then y else z).bool = r := by
  cases a with
  | some u =>
    have := ha u rfl
    cases u with
    | true => rw [if_pos this]; exact hb r h
    | false => rw [if_neg (by rw [this]; decide)]; exact hc r h
  | none =>
    cases b with
    | none => cases h
    | some u =>
      cases c with
      | none => cases h
      | some v =>
        simp only [decIte] at h
        split at h
        · rename_i huv
          simp only [beq_iff_eq] at huv
          simp only [Option.some.injEq] at h
          subst huv
          subst h
          split
          · exact hb _ rfl
          · exact hc _ rfl
        · cases h
def X.decB (known : List (X × Nd)) (c : X) : Option Bool :=
  if knows known c then some true else if knows known (X.nn (.un .not c)) then some false else match c with
  | .t b => some b
  | .un .not a => (X.decB known a).map (!·)
  | .ite a b c => decIte (X.decB known a) (X.decB known b) (X.decB known c)
  | c => decAtom known c
def VT.slim (n : Nat) (known : List (X × Nd)) : VT → VT
  | .ret as => .ret as
  | .need g d t =>
    let g' := X.nn g
    if X.decB known g' == some false || ndTriv d || known.any (fun k => Nd.beq k.2 d && (isTt k.1 || X.beq k.1 g')) then VT.slim n known t
    else .need g' d (VT.slim n (if g'.under n && d.under n then (g', d) :: known else known) t)
  | .ite c a b => match X.decB known (X.nn c) with
    | some true => VT.slim n known a
    | some false => VT.slim n known b
    | none => .ite (X.nn c) (VT.slim n (factsT n (X.nn c) ++ known) a) (VT.slim n (factsF n (X.nn c) ++ known) b)
  | .lt c k t => .lt c k (VT.slim (n + k) known t)
  | .bad => .bad
def KnownOk (Φ : FuncId → List D → List D) (pre : FuncId → List D → Prop) (n : Nat) (ρ : List D) (known : List (X × Nd)) : Prop :=
  ∀ k ∈ known, k.1.under n = true ∧ k.2.under n = true ∧ ((k.1.d Φ ρ).bool = true → k.2.holds pre Φ ρ)
theorem Nd.holds_ext {Φ : FuncId → List D → List D} {pre : FuncId → List D → Prop} {ρ δ : List D} {n : Nat} (hn : n = ρ.length) {d : Nd} (hu : d.under n = true) (h : d.holds pre Φ ρ) : d.holds pre Φ (ρ ++ δ) := by
  cases d with
  | c x => simp only [Nd.holds, (X.d_ext hn x hu).1] at h ⊢; exact h
  | pre f as => simp only [Nd.holds, (X.d_ext hn as hu).2] at h ⊢; exact h
  | pg g f as =>
    simp only [Nd.under, Bool.and_eq_true] at hu
    simp only [Nd.holds, (X.d_ext hn g hu.1).1, (X.d_ext hn as hu.2).2] at h ⊢
    exact h
  | ct g cts e =>
    simp only [Nd.under, Bool.and_eq_true] at hu
    simp only [Nd.holds, (X.d_ext hn g hu.1).1, (X.d_ext hn e hu.2).1] at h ⊢
    exact h
theorem under_mono {n m : Nat} (h : n ≤ m) : ∀ {e : X}, e.under n = true → e.under m = true := by
  intro e
  induction e with
  | var i => intro h1; simp only [X.under, Nat.blt_eq] at h1 ⊢; omega
  | n z => exact fun _ => rfl
  | t b => exact fun _ => rfl
  | str s => exact fun _ => rfl
  | nil => exact fun _ => rfl
  | lnil => exact fun _ => rfl
  | un o a iha => exact fun h => iha h
  | pk a iha => exact fun h => iha h
  | psel j a iha => exact fun h => iha h
  | clo f t a iha => exact fun h => iha h
  | app f a j iha => exact fun h => iha h
  | cons a b iha ihb => intro h; simp only [X.under, Bool.and_eq_true] at h ⊢; exact ⟨iha h.1, ihb h.2⟩
  | lcons a b iha ihb => intro h; simp only [X.under, Bool.and_eq_true] at h ⊢; exact ⟨iha h.1, ihb h.2⟩
  | snoc a b iha ihb => intro h; simp only [X.under, Bool.and_eq_true] at h ⊢; exact ⟨iha h.1, ihb h.2⟩
  | rep a b iha ihb => intro h; simp only [X.under, Bool.and_eq_true] at h ⊢; exact ⟨iha h.1, ihb h.2⟩
  | nth a b iha ihb => intro h; simp only [X.under, Bool.and_eq_true] at h ⊢; exact ⟨iha h.1, ihb h.2⟩
  | bin o a b iha ihb => intro h; simp only [X.under, Bool.and_eq_true] at h ⊢; exact ⟨iha h.1, ihb h.2⟩
  | sel j a b iha ihb => intro h; simp only [X.under, Bool.and_eq_true] at h ⊢; exact ⟨iha h.1, ihb h.2⟩
  | dyn a b j iha ihb => intro h; simp only [X.under, Bool.and_eq_true] at h ⊢; exact ⟨iha h.1, ihb h.2⟩
  | ite a b c iha ihb ihc => intro h; simp only [X.under, Bool.and_eq_true] at h ⊢; exact ⟨⟨iha h.1.1, ihb h.1.2⟩, ihc h.2⟩
  | sub a b c iha ihb ihc => intro h; simp only [X.under, Bool.and_eq_true] at h ⊢; exact ⟨⟨iha h.1.1, ihb h.1.2⟩, ihc h.2⟩
  | upd j a b c iha ihb ihc => intro h; simp only [X.under, Bool.and_eq_true] at h ⊢; exact ⟨⟨iha h.1.1, ihb h.1.2⟩, ihc h.2⟩
theorem Nd.under_mono {n m : Nat} (h : n ≤ m) {d : Nd} (hu : d.under n = true) : d.under m = true := by
  cases d with
  | c x => exact Go.RV.under_mono h hu
  | pre f as => exact Go.RV.under_mono h hu
  | pg g f as =>
    simp only [Nd.under, Bool.and_eq_true] at hu ⊢
    exact ⟨Go.RV.under_mono h hu.1, Go.RV.under_mono h hu.2⟩
  | ct g cts e =>
    simp only [Nd.under, Bool.and_eq_true] at hu ⊢
    exact ⟨Go.RV.under_mono h hu.1, Go.RV.under_mono h hu.2⟩
theorem KnownOk.ext {Φ : FuncId → List D → List D} {pre : FuncId → List D → Prop} {n k : Nat} {ρ δ : List D} {known : List (X × Nd)} (hn : n = ρ.length) (h : KnownOk Φ pre n ρ known) : KnownOk Φ pre (n + k) (ρ ++ δ) known := fun x hx =>
  let ⟨h1, h2, h3⟩ := h x hx
  ⟨under_mono (Nat.le_add_right _ _) h1, Nd.under_mono (Nat.le_add_right _ _) h2, fun hb => Nd.holds_ext hn h2 (h3 (by rw [(X.d_ext hn x.1 h1).1] at hb; exact hb))⟩
theorem KnownOk.append {Φ : FuncId → List D → List D} {pre : FuncId → List D → Prop} {n : Nat} {ρ : List D} {k1 k2 : List (X × Nd)} (h1 : KnownOk Φ pre n ρ k1) (h2 : KnownOk Φ pre n ρ k2) : KnownOk Φ pre n ρ (k1 ++ k2) := fun x hx => (List.mem_append.1 hx).elim (h1 x) (h2 x)
theorem factsT_ok {Φ : FuncId → List D → List D} {pre : FuncId → List D → Prop} {n : Nat} {ρ : List D} {c : X} (h : (c.d Φ ρ).bool = true) : KnownOk Φ pre n ρ (factsT n c) := by
  intro x hx
  simp only [factsT, List.mem_map, List.mem_filter] at hx
  obtain ⟨e, ⟨h1, h2⟩, rfl⟩ := hx
  exact ⟨rfl, h2, fun _ => X.conj_holds h e h1⟩
theorem factsF_ok {Φ : FuncId → List D → List D} {pre : FuncId → List D → Prop} {n : Nat} {ρ : List D} {c : X} (h : (c.d Φ ρ).bool = false) : KnownOk Φ pre n ρ (factsF n c) := by
  intro x hx
  simp only [factsF, List.mem_map, List.mem_filter] at hx
  obtain ⟨e, ⟨h1, h2⟩, rfl⟩ := hx
  refine ⟨rfl, X.nn_under (e := .un .not e) h2, fun _ => ?_⟩
  show ((X.nn (.un .not e)).d Φ ρ).bool = true
  rw [X.nn_bool]
  simp only [X.d, Op1.ev, D.bool_b, X.disj_fails h e h1, Bool.not_false]
theorem knows_sound {Φ : FuncId → List D → List D} {pre : FuncId → List D → Prop} {n : Nat} {ρ : List D} {known : List (X × Nd)} (hk : KnownOk Φ pre n ρ known) {c : X} (h : knows known c = true) : (c.d Φ ρ).bool = true := by
  obtain ⟨k, h1, h2⟩ := List.any_eq_true.1 h
  simp only [Bool.and_eq_true] at h2
  have := (hk k h1).2.2 (isTt_sound h2.1)
  rw [Nd.beq_eq h2.2] at this
  exact this
theorem eqConst_sound {Φ : FuncId → List D → List D} {pre : FuncId → List D → Prop} {n : Nat} {ρ : List D} {x : X} {z : Int} : ∀ {known : List (X × Nd)}, KnownOk Φ pre n ρ known → eqConst x known = some z → (x.d Φ ρ).int = z
  | [], _, h => by cases h
  | k :: ks, hk, h => by
    have hks : KnownOk Φ pre n ρ ks := fun y hy => hk y (List.mem_cons_of_mem _ hy)
    unfold eqConst at h
    split at h
    · cases h
    · rename_i g y z' ks' he
      simp only [List.cons.injEq] at he
      obtain ⟨rfl, rfl⟩ := he
      split at h
      · rename_i hc
        simp only [Bool.and_eq_true] at hc
        simp only [Option.some.injEq] at h
        subst h
        have := (hk _ List.mem_cons_self).2.2 (isTt_sound hc.1)
        rw [← X.beq_eq _ _ hc.2]
        simpa [Nd.holds, X.d, Op2.ev] using this
      · exact eqConst_sound hks h
    · rename_i he
      simp only [List.cons.injEq] at he
      obtain ⟨rfl, rfl⟩ := he
      exact eqConst_sound hks h
theorem decAtom_sound {Φ : FuncId → List D → List D} {pre : FuncId → List D → Prop} {n : Nat} {ρ : List D} {known : List (X × Nd)} (hk : KnownOk Φ pre n ρ known) {c : X} {b : Bool} (h : decAtom known c = some b) : (c.d Φ ρ).bool = b := by
  unfold decAtom at h
  split at h
  all_goals first
    | (cases h; done)
    | (simp only [Option.map_eq_some_iff] at h
       obtain ⟨k, h1, rfl⟩ := h
       have := eqConst_sound hk h1
       simp only [X.d, Op2.ev, D.bool_b, D.int_i, this])
theorem X.decB_sound {Φ : FuncId → List D → List D} {pre : FuncId → List D → Prop} {n : Nat} {ρ : List D} {known : List (X × Nd)} (hk : KnownOk Φ pre n ρ known) : ∀ (c : X) {b : Bool}, X.decB known c = some b → (c.d Φ ρ).bool = b := by
  have base : ∀ (c : X) {b : Bool} (r : Option Bool), (r = some b → (c.d Φ ρ).bool = b) → (if knows known c then some true else if knows known (X.nn (.un .not c)) then some false else r) = some b → (c.d Φ ρ).bool = b := by
    intro c b r hr h
    split at h
    · simp only [Option.some.injEq] at h; subst h; exact knows_sound hk ‹_›
    · split at h
      · rename_i hn
        simp only [Option.some.injEq] at h
        subst h
        have := knows_sound hk hn
        rw [X.nn_bool] at this
        simpa [X.d, Op1.ev] using this
      · exact hr h
  intro c
  induction c with
  | t x =>
    intro b h
    unfold X.decB at h
    exact base (.t x) (some x) (fun e => by simp only [Option.some.injEq] at e; subst e; rfl) h
  | un o a iha =>
    intro b h
    unfold X.decB at h
    cases o with
    | not => exact base (.un .not a) ((X.decB known a).map (!·)) (fun e => by
        simp only [Option.map_eq_some_iff] at e
        obtain ⟨u, h1, rfl⟩ := e
        simp only [X.d, Op1.ev, D.bool_b, iha h1]) h
    | _ => exact base _ _ (fun e => decAtom_sound hk e) h
  | ite x y z ihx ihy ihz =>
    intro b h
    unfold X.decB at h
    exact base (.ite x y z) _ (fun e => decIte_sound (fun _ => ihx) (fun _ => ihy) (fun _ => ihz) e) h
  | _ =>
    intro b h
    unfold X.decB at h
    exact base _ _ (fun e => decAtom_sound hk e) h
theorem VT.slim_ok {Φ : FuncId → List D → List D} {pre : FuncId → List D → Prop} {leaf : List D → Prop} : ∀ {t : VT} {n : Nat} {ρ : List D} {known : List (X × Nd)}, n = ρ.length → KnownOk Φ pre n ρ known → (t.slim n known).ok Φ ρ pre leaf → t.ok Φ ρ pre leaf
  | .ret _, _, _, _, _, _, h => h
  | .need g d t, n, ρ, known, hn, hk, h => by
    unfold VT.slim at h
    simp only at h
    split at h
    · rename_i hc
      refine ⟨fun hg => ?_, VT.slim_ok hn hk h⟩
      simp only [Bool.or_eq_true] at hc
      rcases hc with (hc | hc) | hc
      · have h1 := X.decB_sound hk _ (by simpa using hc : X.decB known (X.nn g) = some false)
        rw [X.nn_bool, hg] at h1
        cases h1
      · exact ndTriv_holds hc
      · obtain ⟨k, hk1, hk2⟩ := List.any_eq_true.1 hc
        simp only [Bool.and_eq_true, Bool.or_eq_true] at hk2
        obtain ⟨h1, h2, h3⟩ := hk k hk1
        have e := Nd.beq_eq hk2.1
        rw [← e]
        refine h3 ?_
        rcases hk2.2 with h4 | h4
        · exact isTt_sound h4
        · rw [X.beq_eq _ _ h4, X.nn_bool]; exact hg
    · obtain ⟨h1, h2⟩ := h
      have h1' : (g.d Φ ρ).bool = true → d.holds pre Φ ρ := fun hg => h1 (by rw [X.nn_bool]; exact hg)
      refine ⟨h1', VT.slim_ok hn ?_ h2⟩
      split
      · rename_i hu
        simp only [Bool.and_eq_true] at hu
        intro x hx
        cases hx with
        | head => exact ⟨hu.1, hu.2, h1⟩
        | tail _ hx => exact hk x hx
      · exact hk
  | .ite c a b, n, ρ, known, hn, hk, h => by
    unfold VT.slim at h
    unfold VT.ok
    split at h
    · rename_i hd
      have := X.decB_sound hk _ hd
      rw [X.nn_bool] at this
      rw [if_pos this]
      exact VT.slim_ok hn hk h
    · rename_i hd
      have := X.decB_sound hk _ hd
      rw [X.nn_bool] at this
      rw [if_neg (by rw [this]; simp)]
      exact VT.slim_ok hn hk h
    · unfold VT.ok at h
      rw [X.nn_bool] at h
      split
      · rename_i hc
        rw [if_pos hc] at h
        exact VT.slim_ok hn (KnownOk.append (factsT_ok (by rw [X.nn_bool]; exact hc)) hk) h
      · rename_i hc
        rw [if_neg hc] at h
        exact VT.slim_ok hn (KnownOk.append (factsF_ok (by rw [X.nn_bool]; simpa using hc)) hk) h
  | .lt c k t, n, ρ, known, hn, hk, h => by
    unfold VT.slim VT.ok at h
    unfold VT.ok
    exact VT.slim_ok (by simp [hn]) (hk.ext hn) h
  | .bad, _, _, _, _, _, h => h
end Go.RV
namespace Go.RV
open Go.RowKit
section
variable {P : Program} {K : Ctx} {σ : St} {gh : Gh} {a : Act} {w : World} {sg : FuncId → Option Sig}
def flatCts : List (Bool × List CT) → List CT
  | [] => []
  | p :: ps => p.2 ++ flatCts ps
theorem flatCts_length : ∀ {ps : List (Bool × List CT)}, (flatCts ps).length = (ps.map fun p => p.2.length).sum
  | [] => rfl
  | p :: ps => by simp [flatCts, flatCts_length (ps := ps)]
def Fits (ps : List (Bool × List CT)) (ds : List D) : Prop := ds.length = (flatCts ps).length ∧ ∀ (i : Nat) ct, (flatCts ps)[i]? = some ct → Wf ct (ds.getD i default)
theorem repL_wf {F : Nat → Prop} : ∀ {cts : List CT} {vs : List Value} {ds : List D}, RepL w F cts vs ds → ∀ (i : Nat) ct, cts[i]? = some ct → Wf ct (ds.getD i default)
  | [], [], [], _, i, ct, h => by simp at h
  | _ :: _, _ :: _, _ :: _, h, 0, ct, hc => by simp at hc; subst hc; simpa using h.1.wf
  | _ :: _, _ :: _, _ :: _, h, i + 1, ct, hc => by simpa using repL_wf h.2 i ct (by simpa using hc)
theorem args_fits {F : Nat → Prop} : ∀ {ps : List (Bool × List CT)} {vs : List Value} {ds : List D}, ArgsRep w F ps vs ds → Fits ps ds
  | [], [], ds, h => by
    have : ds = [] := h
    subst this
    exact ⟨rfl, fun i ct h => by simp [flatCts] at h⟩
  | p :: ps, v :: vs, ds, h => by
    obtain ⟨d1, d2, rfl, ⟨us, _, hrep⟩, h2⟩ := h
    obtain ⟨f1, f2⟩ := args_fits h2
    have hl := (repL_length hrep).1
    refine ⟨by simp [flatCts, hl, f1], fun i ct hc => ?_⟩
    simp only [flatCts] at hc
    by_cases hi : i < p.2.length
    · rw [List.getElem?_append_left hi] at hc
      have := repL_wf hrep i ct hc
      simp only [List.getD] at this ⊢
      rw [List.getElem?_append_left (by omega)]
      exact this
    · rw [List.getElem?_append_right (by omega)] at hc
      have := f2 _ ct hc
      simp only [List.getD] at this ⊢
      rw [List.getElem?_append_right (by omega), hl]
      exact this
theorem args_length {F : Nat → Prop} : ∀ {ps : List (Bool × List CT)} {vs : List Value} {ds : List D}, ArgsRep w F ps vs ds → vs.length = ps.length
  | [], [], _, _ => rfl
  | _ :: _, _ :: _, _, h => by obtain ⟨_, _, _, _, h2⟩ := h; simp [args_length h2]
theorem initCells_eq : ∀ {cts : List CT} {j : Nat}, initCells j cts = resCells X.var j cts
  | [], _ => rfl
  | ct :: cts, j => by simp [initCells, resCells, initCells_eq (cts := cts)]
theorem initSlots_rel : ∀ {ps : List (Bool × List CT)} {vs : List Value} {ds : List D} {j : Nat}, ArgsRep w gh.F ps vs ds → (∀ i, i < ds.length → K.ρ.getD (j + i) default = ds.getD i default) →
    (initSlots j ps).length = vs.length ∧ ∀ (n : Nat) s, (initSlots j ps)[n]? = some s → SV.rel K.Φ K.ρ w gh s (vs.getD n undef)
  | [], [], _, j, _, _ => ⟨rfl, by simp [initSlots]⟩
  | p :: ps, v :: vs, ds, j, h, hm => by
    obtain ⟨d1, d2, rfl, ⟨us, hus, hrep⟩, h2⟩ := h
    have hl := (repL_length hrep).1
    obtain ⟨i1, i2⟩ := initSlots_rel (j := j + p.2.length) h2 fun i hi => by
      have := hm (d1.length + i) (by simp; omega)
      rw [← hl, Nat.add_assoc, this]
      simp only [List.getD]
      rw [List.getElem?_append_right (by omega)]
      congr 2
      omega
    refine ⟨by simp [initSlots, i1], fun n s hs => ?_⟩
    cases n with
    | succ n => simpa using i2 n s (by simpa [initSlots] using hs)
    | zero =>
      simp only [initSlots, List.getElem?_cons_zero, Option.some.injEq] at hs
      subst hs
      simp only [List.getD_cons_zero]
      split
      · rename_i s' hmk
        have h1 := resCells_rel (K := K) (gh := gh) (all := []) (mk := X.var) (j := j) hrep fun i hi => by
          have := hm i (by simp; omega)
          simp only [X.d]
          rw [this]
          simp only [List.getD]
          rw [List.getElem?_append_left hi]
        rw [initCells_eq] at hmk
        have := rel_mkVal hmk h1
        split at hus
        · rename_i hag
          rw [hus]
          simpa [hag] using this
        · rename_i hag
          subst hus
          simpa [hag] using this
      · trivial
def liveAll (K : Ctx) (σ : St) (gh : Gh) (b : Nat) : Prop := gh.F b ∨ ∃ r x, σ.has r x ∧ x.on K ∧ x.k.live gh r = some b
theorem cellRes_rep (h : Inv K σ gh a w) {ct : CT} {s : SC} {e : X} (hc : cellRes σ.res ct s = some e) {v : Value} (hr : SC.rel K.Φ K.ρ w gh s v) : Rep w (liveAll K σ gh) ct v (e.d K.Φ K.ρ) := by
  unfold cellRes at hc
  split at hc
  · rename_i e' cts r ver
    split at hc
    · rename_i g ety cts' content ver' frz hx
      split at hc
      · rename_i hcc
        simp only [Bool.and_eq_true, beq_iff_eq] at hcc
        obtain ⟨⟨⟨hg, rfl⟩, hcb⟩, rfl⟩ := hcc
        have := CT.beqs_eq _ _ hcb
        subst this
        simp only [Option.some.injEq] at hc
        subst hc
        have hx' : σ.has r ⟨g, .row ety cts' content ver frz⟩ := getD_has hx
        have hon : (⟨g, .row ety cts' content ver frz⟩ : Res).on K := isTt_sound hg
        have hok := h.res r _ hx' hon
        obtain ⟨_, _, _, h3⟩ := hr
        have hv := h3 hok.1
        obtain ⟨_, _, _, hok⟩ := hok
        rw [hv]
        cases frz with
        | true =>
          simp only [if_true] at hok
          exact hok.mono (fun _ hb => .inl hb) fun _ _ => rfl
        | false =>
          simp only [Bool.false_eq_true, if_false] at hok
          obtain ⟨xs, vals, hd, hown, hrep⟩ := hok
          rw [hd]
          exact own_rep hown hrep (fun _ hb => .inl hb) fun b hb => .inr ⟨r, _, hx', hon, hb⟩
      · cases hc
    · cases hc
  · simp only [Option.some.injEq] at hc
    subst hc
    obtain ⟨rfl, _⟩ := hr
    exact .nil
  · rename_i ct ct' e'
    split at hc
    · rename_i hcc
      have := CT.beq_eq _ _ hcc
      subst this
      simp only [Option.some.injEq] at hc
      subst hc
      exact Rep.mono (fun _ hb => .inl hb) (fun _ _ => rfl) hr
    · cases hc
  · cases hc
theorem cellsRes_rep (h : Inv K σ gh a w) : ∀ {cts : List CT} {cs : List SC} {es : List X}, cellsRes σ.res cts cs = some es → ∀ {vs : List Value}, relS K.Φ K.ρ w gh cs vs → RepL w (liveAll K σ gh) cts vs (es.map (X.d K.Φ K.ρ))
  | [], [], es, hc, vs, hr => by
    simp only [cellsRes, Option.some.injEq] at hc
    subst hc
    cases vs with
    | nil => trivial
    | cons => exact hr.elim
  | ct :: cts, c :: cs, es, hc, vs, hr => by
    cases vs with
    | nil => exact hr.elim
    | cons v vs =>
      unfold cellsRes at hc
      split at hc
      · rename_i e es' h1 h2
        simp only [Option.some.injEq] at hc
        subst hc
        exact ⟨cellRes_rep h h1 hr.1, cellsRes_rep h h2 hr.2⟩
      · cases hc
  | [], _ :: _, _, hc, _, _ => by simp [cellsRes] at hc
  | _ :: _, [], _, hc, _, _ => by simp [cellsRes] at hc
def resM (tmps : Array Value) : ResultVar → Sem Value
  | .tmp t => pure (tmps.getD t undef)
  | .cell x t => do loadVar t (← asAddr (tmps.getD x undef))
theorem slot_run (h : Inv K σ gh a w) {v : ResultVar} {s : SV} (hs : resSlot P σ v = some s) : ∃ u, (resM a.tmps v).run P w = .ok u w ∧ SV.rel K.Φ K.ρ w gh s u := by
  cases v with
  | tmp t =>
    simp only [resSlot, Option.some.injEq] at hs
    subst hs
    exact ⟨_, rfl, h.opd (.tmp t)⟩
  | cell x t =>
    simp only [resSlot] at hs
    split at hs
    · rename_i r off n ag hsl hsz hag
      split at hs
      · rename_i g e cells z hx
        split at hs
        · rename_i hc2
          simp only [Bool.and_eq_true] at hc2
          have hle := Nat.le_of_ble_eq_true hc2.2
          have hx' : σ.has r ⟨g, .box e cells z⟩ := getD_has hx
          obtain ⟨b, cur, o1, o2, o3, _⟩ := h.res r _ hx' (isTt_sound hc2.1)
          have hp := h.opd (.tmp x)
          simp only [St.opd, hsl] at hp
          obtain ⟨b', h1, h2⟩ := hp
          rw [o1] at h1
          simp only [Option.some.injEq] at h1
          subst h1
          have hlen := relS_length o3
          simp only [Array.length_toList] at hlen
          have h1 : ag = false → n = 1 := by
            intro hag; subst hag
            have := mkVal_one hs
            simp at this
            omega
          have hrr := relS_take n (relS_drop off o3)
          have hload := run_loadVar_cells (P := P) (w := w) (off := off) hsz hag o2 (by omega) h1
          refine ⟨_, ?_, rel_mkVal hs hrr⟩
          have h2' : a.tmps.getD x undef = .pointer (some ⟨b, off, none⟩) := h2
          simp only [resM, h2', asAddr, Sem.run_bind, Sem.run_pure, Result.andThen_ok]
          exact hload
        · cases hs
      · cases hs
    · cases hs
theorem resAll_rep (h : Inv K σ gh a w) : ∀ {rs : List (Bool × List CT)} {rv : List ResultVar} {es : List X}, resAll P σ rs rv = some es →
    ∃ vs : List Value, (rv.mapM (resM a.tmps)).run P w = .ok vs w ∧ vs.length = rs.length ∧ ArgsRep w (liveAll K σ gh) rs vs (es.map (X.d K.Φ K.ρ))
  | [], [], es, hc => by
    simp only [resAll, Option.some.injEq] at hc
    subst hc
    exact ⟨[], rfl, rfl, rfl⟩
  | r :: rs, v :: rv, es, hc => by
    unfold resAll at hc
    split at hc
    · rename_i s hs
      split at hc
      · rename_i e1 e2 h1 h2
        simp only [Option.some.injEq] at hc
        subst hc
        obtain ⟨vs, h3, hl, h4⟩ := resAll_rep h h2
        obtain ⟨u, hu, hrelu⟩ := slot_run (P := P) h hs
        unfold resOne at h1
        split at h1
        · rename_i cs hcs
          obtain ⟨us, hus, hrel⟩ := argCells_rel hcs hrelu
          refine ⟨u :: vs, ?_, by simp [hl], _, _, by simp, ⟨us, hus, cellsRes_rep h h1 hrel⟩, h4⟩
          simp only [List.mapM_cons, Sem.run_bind, hu, Result.andThen_ok]
          rw [h3]
          rfl
        · cases h1
      · cases hc
    · cases hc
  | [], _ :: _, _, hc => by simp [resAll] at hc
  | _ :: _, [], _, hc => by simp [resAll] at hc
theorem results_run (h : Inv K σ gh a w) {fn : Func} {rs : List (Bool × List CT)} {es : List X} (hc : resAll P σ rs fn.results.toList = some es) :
    ∃ v, (results fn a.tmps).run P w = .ok v w ∧ ResRep w (liveAll K σ gh) rs v (es.map (X.d K.Φ K.ρ)) := by
  obtain ⟨vs, h1, hl, h2⟩ := resAll_rep (P := P) h hc
  have hrun : (results fn a.tmps).run P w = .ok (if h : vs.toArray.size = 1 then vs.toArray[0] else .tuple vs.toArray) w := by
    have e : results fn a.tmps = (do let vs ← fn.results.mapM (resM a.tmps); pure (if h : vs.size = 1 then vs[0] else .tuple vs)) := rfl
    rw [e]
    simp only [Array.mapM_eq_mapM_toList, Sem.run_bind, Sem.run_map, h1, Result.andThen_ok]
    simp
  refine ⟨_, hrun, ?_⟩
  match rs, vs, hl, h2 with
  | [], [], _, _ => rfl
  | [r], [v], _, h2 =>
    obtain ⟨d1, d2, e, h3, h4⟩ := h2
    have : d2 = [] := h4
    subst this
    simp only [List.append_nil] at e
    rw [e]
    exact h3
  | r1 :: r2 :: rs, v1 :: v2 :: vs, _, h2 => exact ⟨(v1 :: v2 :: vs).toArray, by simp, h2⟩
def liveEx (K : Ctx) (σ : St) (gh : Gh) (own : List Nat) (b : Nat) : Prop := gh.F b ∨ ∃ r x, r ∉ own ∧ σ.has r x ∧ x.on K ∧ x.k.live gh r = some b
def OwnSeq (K : Ctx) (σ : St) (gh : Gh) (own : List Nat) : List Value → List Nat → Prop
  | [], rl => rl = []
  | u :: us, rl => (ownB u = none ∧ OwnSeq K σ gh own us rl) ∨ ∃ r rl', rl = r :: rl' ∧ r ∈ own ∧ (∀ b, ownB u = some b → ∃ x, σ.has r x ∧ x.on K ∧ x.k.live gh r = some b) ∧ OwnSeq K σ gh own us rl'
theorem OwnSeq.app {own : List Nat} : ∀ {u1 u2 : List Value} {r1 r2 : List Nat}, OwnSeq K σ gh own u1 r1 → OwnSeq K σ gh own u2 r2 → OwnSeq K σ gh own (u1 ++ u2) (r1 ++ r2)
  | [], _, _, _, h1, h2 => by
    have : _ = [] := h1
    subst this; exact h2
  | u :: us, _, _, _, h1, h2 => by
    rcases h1 with ⟨h, h'⟩ | ⟨r, rl', rfl, h3, h4, h5⟩
    · exact .inl ⟨h, h'.app h2⟩
    · exact .inr ⟨r, rl' ++ _, rfl, h3, h4, h5.app h2⟩
theorem OwnSeq.mem {own : List Nat} : ∀ {us : List Value} {rl : List Nat}, OwnSeq K σ gh own us rl → ∀ u ∈ us, ∀ b, ownB u = some b → ∃ r ∈ rl, r ∈ own ∧ ∃ x, σ.has r x ∧ x.on K ∧ x.k.live gh r = some b
  | [], _, _, u, hu, _, _ => by cases hu
  | v :: us, rl, h, u, hu, b, hb => by
    rcases h with ⟨h, h'⟩ | ⟨r, rl', rfl, h3, h4, h5⟩
    · cases hu with
      | head => rw [h] at hb; cases hb
      | tail _ hu => exact h'.mem u hu b hb
    · cases hu with
      | head =>
        obtain ⟨x, hx⟩ := h4 b hb
        exact ⟨r, by simp, h3, x, hx⟩
      | tail _ hu =>
        obtain ⟨r', hr', hx⟩ := h5.mem u hu b hb
        exact ⟨r', by simp [hr'], hx⟩
theorem OwnSeq.apart (h : Inv K σ gh a w) {own : List Nat} : ∀ {us : List Value} {rl : List Nat}, OwnSeq K σ gh own us rl → rl.Nodup → us.Pairwise fun u u' => ∀ b, ownB u = some b → ownB u' ≠ some b
  | [], _, _, _ => List.Pairwise.nil
  | v :: us, rl, hs, hn => by
    rcases hs with ⟨h1, h'⟩ | ⟨r, rl', rfl, h3, h4, h5⟩
    · exact List.pairwise_cons.2 ⟨fun u' _ b hb => (by rw [h1] at hb; cases hb), h'.apart h hn⟩
    · rw [List.nodup_cons] at hn
      refine List.pairwise_cons.2 ⟨fun u' hu' b hb hb' => ?_, h5.apart h hn.2⟩
      obtain ⟨x, hx, hon, hl⟩ := h4 b hb
      obtain ⟨r', hr', _, x', hx', hon', hl'⟩ := h5.mem u' hu' b hb'
      have := h.inj r x r' x' b hx hon hx' hon' hl hl'
      subst this
      exact hn.1 hr'
theorem nodupB_spec : ∀ {l : List Nat}, nodupB l = true → l.Nodup
  | [], _ => List.nodup_nil
  | r :: rs, h => by
    simp only [nodupB, Bool.and_eq_true, Bool.not_eq_true'] at h
    exact List.nodup_cons.2 ⟨by simpa using h.1, nodupB_spec h.2⟩
theorem cellRes_ex (h : Inv K σ gh a w) {own : List Nat} {ct : CT} {s : SC} {e : X} (hc : cellRes σ.res ct s = some e) (hno : ∀ r ver, s = .row r ver → r ∉ own) {v : Value} (hr : SC.rel K.Φ K.ρ w gh s v) : Rep w (liveEx K σ gh own) ct v (e.d K.Φ K.ρ) := by
  unfold cellRes at hc
  split at hc
  · rename_i e' cts r ver
    split at hc
    · rename_i g ety cts' content ver' frz hx
      split at hc
      · rename_i hcc
        simp only [Bool.and_eq_true, beq_iff_eq] at hcc
        obtain ⟨⟨⟨hg, rfl⟩, hcb⟩, rfl⟩ := hcc
        have := CT.beqs_eq _ _ hcb
        subst this
        simp only [Option.some.injEq] at hc
        subst hc
        have hx' : σ.has r ⟨g, .row ety cts' content ver frz⟩ := getD_has hx
        have hon : (⟨g, .row ety cts' content ver frz⟩ : Res).on K := isTt_sound hg
        have hok := h.res r _ hx' hon
        obtain ⟨_, _, _, h3⟩ := hr
        have hv := h3 hok.1
        obtain ⟨_, _, _, hok⟩ := hok
        rw [hv]
        cases frz with
        | true =>
          simp only [if_true] at hok
          exact hok.mono (fun _ hb => .inl hb) fun _ _ => rfl
        | false =>
          simp only [Bool.false_eq_true, if_false] at hok
          obtain ⟨xs, vals, hd, hown, hrep⟩ := hok
          rw [hd]
          exact own_rep hown hrep (fun _ hb => .inl hb) fun b hb => .inr ⟨r, _, hno r ver rfl, hx', hon, hb⟩
      · cases hc
    · cases hc
  · simp only [Option.some.injEq] at hc
    subst hc
    obtain ⟨rfl, _⟩ := hr
    exact .nil
  · rename_i ct ct' e'
    split at hc
    · rename_i hcc
      have := CT.beq_eq _ _ hcc
      subst this
      simp only [Option.some.injEq] at hc
      subst hc
      exact Rep.mono (fun _ hb => .inl hb) (fun _ _ => rfl) hr
    · cases hc
  · cases hc
theorem cellResO_plain {own : List Nat} {rs : List (Option Res)} {ct : CT} (hno : ∀ e cts, ct ≠ .osl e cts) {s : SC} {e : X} (hc : cellResO own rs ct s = some e) : cellRes rs ct s = some e ∧ ∀ r ver, s = .row r ver → r ∉ own := by
  unfold cellResO at hc
  split at hc
  · exact absurd rfl (hno _ _)
  · exact absurd rfl (hno _ _)
  · exact absurd rfl (hno _ _)
  · split at hc
    · cases hc
    · rename_i r ver hr
      exact ⟨hc, fun r' ver' e' => by
        simp only [SC.row.injEq] at e'
        obtain ⟨rfl, _⟩ := e'
        simpa using hr⟩
  · rename_i hx
    refine ⟨hc, fun r ver e' => ?_⟩
    subst e'
    exfalso
    unfold cellRes at hc
    split at hc
    · rename_i h1 h2
      first | exact hx _ _ _ _ rfl rfl | exact absurd rfl (hx _ _ _ _ · rfl) | simp_all
    all_goals simp_all
theorem cellResO_own (h : Inv K σ gh a w) {own : List Nat} {ety : TypeId} {cts : List CT} {s : SC} {e : X} (hc : cellResO own σ.res (.osl ety cts) s = some e) {v : Value} (hr : SC.rel K.Φ K.ρ w gh s v) :
    OwnD w (liveEx K σ gh own) ety cts v (e.d K.Φ K.ρ) ∧ ((∃ r ver, s = .row r ver ∧ r ∈ own ∧ ∀ b, ownB v = some b → ∃ x, σ.has r x ∧ x.on K ∧ x.k.live gh r = some b) ∨ ((∀ r ver, s ≠ .row r ver) ∧ ownB v = none)) := by
  unfold cellResO at hc
  split at hc
  · rename_i e1 cts1 r ver heq
    simp only [CT.osl.injEq] at heq
    obtain ⟨rfl, rfl⟩ := heq
    split at hc
    · rename_i g ety' cts' content ver' hx
      split at hc
      · rename_i hcc
        simp only [Bool.and_eq_true, beq_iff_eq] at hcc
        obtain ⟨⟨⟨⟨hg, rfl⟩, hcb⟩, rfl⟩, hin⟩ := hcc
        have := CT.beqs_eq _ _ hcb
        subst this
        simp only [Option.some.injEq] at hc
        subst hc
        have hx' : σ.has r ⟨g, .row ety' cts' content ver false⟩ := getD_has hx
        have hon : (⟨g, .row ety' cts' content ver false⟩ : Res).on K := isTt_sound hg
        have hok := h.res r _ hx' hon
        obtain ⟨_, _, _, h3⟩ := hr
        have hv := h3 hok.1
        obtain ⟨_, _, _, hok⟩ := hok
        simp only [Bool.false_eq_true, if_false] at hok
        obtain ⟨xs, vals, hd, hown, hrep⟩ := hok
        subst hv
        exact ⟨⟨xs, vals, hd, hown, hrep.mono (fun _ hb => .inl hb) fun _ _ => rfl⟩, .inl ⟨r, ver, rfl, by simpa using hin, fun b hb => ⟨_, hx', hon, hb⟩⟩⟩
      · cases hc
    · cases hc
  · simp only [Option.some.injEq] at hc
    subst hc
    obtain ⟨rfl, _⟩ := hr
    exact ⟨⟨[], [], rfl, .inl ⟨rfl, rfl, _, rfl⟩, fun i hi => by simp at hi⟩, .inr ⟨fun _ _ e => (by cases e), rfl⟩⟩
  · cases hc
  · rename_i heq; cases heq
  · rename_i hx _ _ _ _
    first | exact absurd rfl (hx _ _) | simp_all
theorem cellsResO_rep (h : Inv K σ gh a w) {own : List Nat} : ∀ {cts : List CT} {cs : List SC} {es : List X}, cellsResO own σ.res cts cs = some es → ∀ {vs : List Value}, relS K.Φ K.ρ w gh cs vs →
    ∃ us, RepLO w (liveEx K σ gh own) cts vs (es.map (X.d K.Φ K.ρ)) us ∧ OwnSeq K σ gh own us (ownCells cts cs)
  | [], [], es, hc, vs, hr => by
    simp only [cellsResO, Option.some.injEq] at hc
    subst hc
    cases vs with
    | nil => exact ⟨[], trivial, rfl⟩
    | cons => exact hr.elim
  | ct :: cts, c :: cs, es, hc, vs, hr => by
    cases vs with
    | nil => exact hr.elim
    | cons v vs =>
      unfold cellsResO at hc
      split at hc
      · rename_i e es' h1 h2
        simp only [Option.some.injEq] at hc
        subst hc
        obtain ⟨us, k1, k2⟩ := cellsResO_rep h h2 hr.2
        cases ct with
        | osl ety ts =>
          obtain ⟨o1, o2⟩ := cellResO_own h h1 hr.1
          refine ⟨v :: us, ⟨rfl, o1, k1⟩, ?_⟩
          rcases o2 with ⟨r, ver, rfl, o3, o4⟩ | ⟨o3, o4⟩
          · exact .inr ⟨r, _, rfl, o3, o4, k2⟩
          · refine .inl ⟨o4, ?_⟩
            have : ownCells (.osl ety ts :: cts) (c :: cs) = ownCells cts cs := by
              cases c <;> first | rfl | exact absurd rfl (o3 _ _)
            rw [this]; exact k2
        | int k =>
          obtain ⟨o1, o2⟩ := cellResO_plain (fun _ _ e => by cases e) h1
          exact ⟨us, ⟨cellRes_ex h o1 o2 hr.1, k1⟩, k2⟩
        | bool =>
          obtain ⟨o1, o2⟩ := cellResO_plain (fun _ _ e => by cases e) h1
          exact ⟨us, ⟨cellRes_ex h o1 o2 hr.1, k1⟩, k2⟩
        | str =>
          obtain ⟨o1, o2⟩ := cellResO_plain (fun _ _ e => by cases e) h1
          exact ⟨us, ⟨cellRes_ex h o1 o2 hr.1, k1⟩, k2⟩
        | sl t ts =>
          obtain ⟨o1, o2⟩ := cellResO_plain (fun _ _ e => by cases e) h1
          exact ⟨us, ⟨cellRes_ex h o1 o2 hr.1, k1⟩, k2⟩
        | pt ts =>
          obtain ⟨o1, o2⟩ := cellResO_plain (fun _ _ e => by cases e) h1
          exact ⟨us, ⟨cellRes_ex h o1 o2 hr.1, k1⟩, k2⟩
        | clo =>
          obtain ⟨o1, o2⟩ := cellResO_plain (fun _ _ e => by cases e) h1
          exact ⟨us, ⟨cellRes_ex h o1 o2 hr.1, k1⟩, k2⟩
        | ifc =>
          obtain ⟨o1, o2⟩ := cellResO_plain (fun _ _ e => by cases e) h1
          exact ⟨us, ⟨cellRes_ex h o1 o2 hr.1, k1⟩, k2⟩
      · cases hc
  | [], _ :: _, _, hc, _, _ => by simp [cellsResO] at hc
  | _ :: _, [], _, hc, _, _ => by simp [cellsResO] at hc
theorem resAllO_rep (h : Inv K σ gh a w) {own : List Nat} : ∀ {rs : List (Bool × List CT)} {rv : List ResultVar} {es : List X}, resAllO P own σ rs rv = some es →
    ∃ vs us, (rv.mapM (resM a.tmps)).run P w = .ok vs w ∧ vs.length = rs.length ∧ ArgsRepO w (liveEx K σ gh own) rs vs (es.map (X.d K.Φ K.ρ)) us ∧ OwnSeq K σ gh own us (ownAll P σ rs rv)
  | [], [], es, hc => by
    simp only [resAllO, Option.some.injEq] at hc
    subst hc
    exact ⟨[], [], rfl, rfl, ⟨rfl, rfl⟩, rfl⟩
  | r :: rs, v :: rv, es, hc => by
    unfold resAllO at hc
    split at hc
    · rename_i cs hs
      split at hc
      · rename_i e1 e2 h1 h2
        simp only [Option.some.injEq] at hc
        subst hc
        obtain ⟨vs, us, h3, hl, h4, h5⟩ := resAllO_rep h h2
        have hs' := hs
        unfold slotCells at hs
        split at hs
        · rename_i s hsl
          obtain ⟨u, hu, hrelu⟩ := slot_run (P := P) h hsl
          obtain ⟨ws, hws, hrel⟩ := argCells_rel hs hrelu
          obtain ⟨u1, k1, k2⟩ := cellsResO_rep h h1 hrel
          refine ⟨u :: vs, u1 ++ us, ?_, by simp [hl], ⟨_, _, u1, us, by simp, rfl, ⟨ws, hws, k1⟩, h4⟩, ?_⟩
          · simp only [List.mapM_cons, Sem.run_bind, hu, Result.andThen_ok]
            rw [h3]
            rfl
          · have : ownAll P σ (r :: rs) (v :: rv) = ownCells r.2 cs ++ ownAll P σ rs rv := by simp only [ownAll, hs']
            rw [this]
            exact k2.app h5
        · cases hs
      · cases hc
    · cases hc
  | [], _ :: _, _, hc => by simp [resAllO] at hc
  | _ :: _, [], _, hc => by simp [resAllO] at hc
theorem results_runO (h : Inv K σ gh a w) {own : List Nat} {fn : Func} {rs : List (Bool × List CT)} {es : List X} (hc : resAllO P own σ rs fn.results.toList = some es) :
    ∃ v us, (results fn a.tmps).run P w = .ok v w ∧ ResRepO w (liveEx K σ gh own) rs v (es.map (X.d K.Φ K.ρ)) us ∧ OwnSeq K σ gh own us (ownAll P σ rs fn.results.toList) := by
  obtain ⟨vs, us, h1, hl, h2, h3⟩ := resAllO_rep (P := P) h hc
  have hrun : (results fn a.tmps).run P w = .ok (if h : vs.toArray.size = 1 then vs.toArray[0] else .tuple vs.toArray) w := by
    have e : results fn a.tmps = (do let vs ← fn.results.mapM (resM a.tmps); pure (if h : vs.size = 1 then vs[0] else .tuple vs)) := rfl
    rw [e]
    simp only [Array.mapM_eq_mapM_toList, Sem.run_bind, Sem.run_map, h1, Result.andThen_ok]
    simp
  refine ⟨_, us, hrun, ?_, h3⟩
  match rs, vs, hl, h2 with
  | [], [], _, h2 => exact ⟨rfl, h2.2⟩
  | [r], [v], _, h2 =>
    obtain ⟨d1, d2, u1, u2, e, e2, h3, h4, h5⟩ := h2
    subst h4 h5
    simp only [List.append_nil] at e e2
    rw [e, e2]
    exact h3
  | r1 :: r2 :: rs, v1 :: v2 :: vs, _, h2 => exact ⟨(v1 :: v2 :: vs).toArray, by simp, h2⟩
theorem meets_of_vt0 {Φ : FuncId → List D → List D} {lt : Nat → Option LoopSig} {pre : FuncId → List D → Prop} (hmx : P.follows .mixedOrders = true) (hM : ∀ f S, sg f = some S → MeetsAt P f S pre Φ) {f : FuncId} {fn : Func} {c : Code} {S : Sig}
    (hf : P.funcs[f]? = some fn) (hb : fn.body = some c) (hname : (fn.name == "runtime.NumGoroutine") = false) (hl : ∀ b ∈ Code.loops c, ∀ L, (firstRegion b).bind lt = some L → LoopMeets P Φ (pre L.key) L b) {vt : VT} (hvt : fnVT P sg lt S fn c = vt)
    {preF : List D → Prop} {fnD : List D → List D} (h : ∀ ds, Fits S.ps ds → preF ds → vt.ok Φ ds pre (fun out => out = fnD ds)) : MeetsFn P f S preF fnD := by
  refine ⟨fun args w => ?_, fun w F vs ds hF hargs hpre => ?_⟩
  · have h1 : fn.name ≠ "runtime.NumGoroutine" := by simpa using hname
    simp [callFunc, hf, h1, hb]
  · have ht := h ds (args_fits hargs) hpre
    rw [← hvt] at ht
    unfold fnVT at ht
    refine calls_of_wp hf hb ?_
    let gh : Gh := ⟨fun _ => none, fun _ => undef, fun _ => 0, F⟩
    let a0 : Act := { tmps := vs.toArray ++ Array.replicate (fn.ntmps - vs.toArray.size) undef, defers := [] }
    let K : Ctx := ⟨Φ, ds, fun b => b < w.heap.size, w, fun _ => true, a0, gh⟩
    have hlen := args_length hargs
    obtain ⟨s1, s2⟩ := initSlots_rel (K := K) (gh := gh) (w := w) (j := 0) hargs (fun i _ => by rw [Nat.zero_add])
    have hI : Inv K (initSt S.ps fn.ntmps) gh a0 w := by
      refine ⟨rfl, ?_, fun n s hs => ?_, fun n _ => rfl, rfl, rfl, rfl, Nat.le_refl _, fun _ _ => rfl, fun _ hb => hb, hF, fun r b hb => (by cases hb), fun r hr => (by simp [gh] at hr), fun r x hx => (by simp [St.has, initSt] at hx), fun r x b hx => (by simp [St.has, initSt] at hx),
        fun r x r' x' b hx => (by simp [St.has, initSt] at hx), Gh.le.refl _, fun _ hb => .inl hb⟩
      · simp only [a0, initSt, Array.size_append, List.size_toArray, Array.size_replicate, List.length_append, List.length_replicate, s1, hlen]
      · simp only [initSt] at hs
        by_cases hn : n < (initSlots 0 S.ps).length
        · rw [List.getElem?_append_left hn] at hs
          have := s2 n s hs
          have e : a0.tmps.getD n undef = vs.getD n undef := by
            have hn' : n < vs.length := by rw [← s1]; exact hn
            simp only [a0, Array.getD_eq_getD_getElem?]
            rw [Array.getElem?_append_left (by simpa using hn')]
            simp [List.getD]
          rw [e]
          exact this
        · rw [List.getElem?_append_right (by omega), List.getElem?_replicate] at hs
          split at hs
          · simp only [Option.some.injEq] at hs
            subst hs
            have hn' : vs.length ≤ n := by rw [← s1]; omega
            show a0.tmps.getD n undef = undef
            simp only [a0, Array.getD_eq_getD_getElem?]
            rw [Array.getElem?_append_right (by simpa using hn'), Array.getElem?_replicate]
            split <;> rfl
          · cases hs
    have hleaf : ∀ k τ gh' a' w' δ, ((fnLeaf P S fn.results.toList k τ).ok Φ (ds ++ δ) pre fun out => out = fnD ds) → Inv { K with ρ := ds ++ δ } τ gh' a' w' →
        a'.defers = [] ∧ ∃ v, (results fn a'.tmps).run P w' = .ok v w' ∧ ∃ v0 F' us, (Ending.returned v) = .returned v0 ∧ ResRepO w' F' S.rs v0 (fnD ds) us ∧ OwnNew w w' F' us ∧ (∀ b, F b → F' b) ∧ (∀ b, F' b → (F b ∨ w.heap.size ≤ b) ∧ b < w'.heap.size) ∧ Below w.heap.size w w' := by
      intro k τ gh' a' w' δ hk hI'
      have hk' : (∃ es, resAll P τ S.rs fn.results.toList = some es ∧ es.map (X.d Φ (ds ++ δ)) = fnD ds) ∨ ∃ es, resAllO P (ownAll P τ S.rs fn.results.toList) τ S.rs fn.results.toList = some es ∧ (ownAll P τ S.rs fn.results.toList).Nodup ∧ es.map (X.d Φ (ds ++ δ)) = fnD ds := by
        cases k with
        | exit id => exact hk.elim
        | normal =>
          simp only [fnLeaf] at hk
          split at hk
          · split at hk
            · rename_i es he
              refine .inl ⟨es, he, ?_⟩
              have := ds_consX (K := { K with ρ := ds ++ δ }) es
              simp only [VT.ok] at hk
              rw [← hk]
              exact this.symm
            · exact hk.elim
          · split at hk
            · rename_i hnd
              split at hk
              · rename_i es he
                refine .inr ⟨es, he, nodupB_spec hnd, ?_⟩
                have := ds_consX (K := { K with ρ := ds ++ δ }) es
                simp only [VT.ok] at hk
                rw [← hk]
                exact this.symm
              · exact hk.elim
            · exact hk.elim
        | ret =>
          simp only [fnLeaf] at hk
          split at hk
          · split at hk
            · rename_i es he
              refine .inl ⟨es, he, ?_⟩
              have := ds_consX (K := { K with ρ := ds ++ δ }) es
              simp only [VT.ok] at hk
              rw [← hk]
              exact this.symm
            · exact hk.elim
          · split at hk
            · rename_i hnd
              split at hk
              · rename_i es he
                refine .inr ⟨es, he, nodupB_spec hnd, ?_⟩
                have := ds_consX (K := { K with ρ := ds ++ δ }) es
                simp only [VT.ok] at hk
                rw [← hk]
                exact this.symm
              · exact hk.elim
            · exact hk.elim
      rcases hk' with hk' | ⟨es, he, hnd, hd⟩
      rotate_left
      · obtain ⟨v, us, hv, hrep, hseq⟩ := results_runO (P := P) hI' he
        have hrep' : ResRepO w' (liveEx { K with ρ := ds ++ δ } τ gh' (ownAll P τ S.rs fn.results.toList)) S.rs v (fnD ds) us := by rw [← hd]; exact hrep
        refine ⟨hI'.defers, v, hv, v, _, us, rfl, hrep', ⟨fun u hu b hb => ?_, hseq.apart hI' hnd⟩, fun b hb => .inl (hI'.le0.F b hb), fun b hb => ?_, ⟨hI'.os, hI'.tape, hI'.output, hI'.grow, fun b hb => hI'.pr b hb⟩⟩
        · obtain ⟨r, _, hro, x, hx, hon, hl⟩ := hseq.mem u hu b hb
          obtain ⟨o1, o2, o3⟩ := hI'.own r x b hx hon hl
          refine ⟨Nat.le_of_not_lt o1, o3, fun hex => ?_⟩
          rcases hex with h1 | ⟨r', x', hr', hx', hon', hl'⟩
          · exact o2 h1
          · have := hI'.inj r x r' x' b hx hon hx' hon' hl hl'
            subst this
            exact hr' hro
        · rcases hb with hb | ⟨r, x, _, hx, hon, hl⟩
          · refine ⟨?_, hI'.Flt b hb⟩
            rcases hI'.Fpr b hb with h1 | h1
            · exact .inl h1
            · exact .inr (Nat.le_of_not_lt h1)
          · obtain ⟨o1, _, o3⟩ := hI'.own r x b hx hon hl
            exact ⟨.inr (Nat.le_of_not_lt o1), o3⟩
      obtain ⟨es, he, hd⟩ := hk'
      obtain ⟨v, hv, hrep⟩ := results_run (P := P) hI' he
      have hrep' : ResRep w' (liveAll { K with ρ := ds ++ δ } τ gh') S.rs v (fnD ds) := by rw [← hd]; exact hrep
      refine ⟨hI'.defers, v, hv, v, liveAll { K with ρ := ds ++ δ } τ gh', [], rfl, hrep'.toO, ownNew_nil, fun b hb => .inl (hI'.le0.F b hb), fun b hb => ?_, ⟨hI'.os, hI'.tape, hI'.output, hI'.grow, fun b hb => hI'.pr b hb⟩⟩
      rcases hb with hb | ⟨r, x, hx, hon, hl⟩
      · refine ⟨?_, hI'.Flt b hb⟩
        rcases hI'.Fpr b hb with h1 | h1
        · exact .inl h1
        · exact .inr (Nat.le_of_not_lt h1)
      · obtain ⟨o1, _, o3⟩ := hI'.own r x b hx hon hl
        exact ⟨.inr (Nat.le_of_not_lt o1), o3⟩
    have hlen0 : (S.ps.map fun p => p.2.length).sum = K.ρ.length := by
      have h1 := (args_fits hargs).1
      show _ = ds.length
      rw [h1, flatCts_length]
    refine ex_ok (K := K) hmx hM c hl rfl rfl hlen0 hI (OT.ok_vt ht) fun k τ gh' a' w' δ hk hI' => ?_
    have := hleaf k τ gh' a' w' δ hk hI'
    cases k with
    | normal => exact this
    | ret => exact this
    | exit id => exact hk.elim
theorem loop_meets {Φ : FuncId → List D → List D} {lt : Nat → Option LoopSig} {pre : FuncId → List D → Prop} (hmx : P.follows .mixedOrders = true) (hM : ∀ f S, sg f = some S → MeetsAt P f S pre Φ) {body : Code}
    (hl : ∀ b ∈ Code.loops body, ∀ L, (firstRegion b).bind lt = some L → LoopMeets P Φ (pre L.key) L b) (L : LoopSig) (μ : List D → Nat) {vt : VT} (hvt : (loopVT P sg lt L body).slim L.nv [] = vt)
    (h : ∀ ρ, ρ.length = L.nv → pre L.key ρ → vt.ok Φ ρ pre (RoundOk Φ (pre L.key) μ L ρ)) : LoopMeets P Φ (pre L.key) L body :=
  loop_meets0 hmx hM hl L μ rfl fun ρ h1 h2 => VT.slim_ok h1.symm (fun k hk => by cases hk) (hvt ▸ h ρ h1 h2)
theorem meets_of_vt {Φ : FuncId → List D → List D} {lt : Nat → Option LoopSig} {pre : FuncId → List D → Prop} (hmx : P.follows .mixedOrders = true) (hM : ∀ f S, sg f = some S → MeetsAt P f S pre Φ) {f : FuncId} {fn : Func} {c : Code} {S : Sig}
    (hf : P.funcs[f]? = some fn) (hb : fn.body = some c) (hname : (fn.name == "runtime.NumGoroutine") = false) (hl : ∀ b ∈ Code.loops c, ∀ L, (firstRegion b).bind lt = some L → LoopMeets P Φ (pre L.key) L b) {vt : VT} (hvt : (fnVT P sg lt S fn c).slim (S.ps.map fun p => p.2.length).sum [] = vt)
    {preF : List D → Prop} {fnD : List D → List D} (h : ∀ ds, Fits S.ps ds → preF ds → vt.ok Φ ds pre (fun out => out = fnD ds)) (hlt : f < 20000 := by decide) : Meets P f S preF fnD := MeetsFn.meets (hf := hlt) <|
  meets_of_vt0 hmx hM hf hb hname hl rfl fun ds h1 h2 => VT.slim_ok (by rw [h1.1, flatCts_length]) (fun k hk => by cases hk) (hvt ▸ h ds h1 h2)
structure Ent where
  f : FuncId
  S : Sig
  pre : List D → Prop
  fn : List D → List D
def sgOf (l : List (FuncId × Sig)) (f : FuncId) : Option Sig := match l with
  | [] => none
  | e :: es => if e.1 == f then some e.2 else sgOf es f
end
end Go.RV
namespace Go.RV
open Go.RowKit
def X.isVar : X → Bool | .var _ => true | _ => false
def SC.plain : SC → Bool
  | .x _ e => e.isVar
  | .ra _ _ _ e _ => e.isVar
  | .ea .. => false
  | .pa .. => false
  | .da .. => false
  | _ => true
def SV.plain : SV → Bool
  | .c s => s.plain
  | .agg cs => cs.all SC.plain
  | .und => true
  | .any => true
  | _ => false
def RK.plain : RK → Bool
  | .box _ cs _ => cs.all SC.plain
  | .row _ _ x _ _ => x.isVar
def St.plain (σ : St) : Bool := σ.slots.all SV.plain && σ.res.all fun | some x => isTt x.g && x.k.plain | none => true
section
variable {Φ Φ' : FuncId → List D → List D} {ρ : List D} {w : World} {gh : Gh}
end
section
variable {P : Program} {K : Ctx} {σ : St} {gh : Gh} {a : Act} {w : World} {sg : FuncId → Option Sig}
theorem MeetsAt.name {f : FuncId} {S : Sig} {pre : FuncId → List D → Prop} {Φ : FuncId → List D → List D} (h : S.w.isSome = true := by rfl) : MeetsAt P f S pre Φ := .inl h
end
end Go.RV
namespace Go.RV
open Go.RowKit
def rowSt (q : TypeId × List CT × List (Bool × List CT)) (ntmps : Nat) : St :=
  ⟨(.c (.row 0 1) :: initSlots 1 q.2.2) ++ List.replicate (ntmps - (q.2.2.length + 1)) .und, [some ⟨tt, .row q.1 q.2.1 (.var 0) 1 false⟩]⟩
def rowLeaf (q : TypeId × List CT × List (Bool × List CT)) : EK → St → VT
  | .normal, σ | .ret, σ => match σ.res.getD 0 none with
    | some ⟨g, .row e cts content ver false⟩ => if isTt g && ver == 1 && e == q.1 && CT.beqs cts q.2.1 then .ret (consX [content]) else .bad
    | _ => .bad
  | _, _ => .bad
def qRow (S : Sig) : TypeId × List CT × List (Bool × List CT) := match rowOf S with
  | some q => q
  | none => (0, [], [])
section
variable {P : Program} {sg : FuncId → Option Sig}
def rowVT (P : Program) (sg : FuncId → Option Sig) (lt : Nat → Option LoopSig) (q : TypeId × List CT × List (Bool × List CT)) (fn : Func) (c : Code) : VT :=
  (ex P sg (fun _ => true) lt c (1 + (q.2.2.map fun p => p.2.length).sum) (rowSt q fn.ntmps)).vt (rowLeaf q)
theorem rowRep_flat {w w' : World} {F F' : Nat → Prop} {cts : List CT} (hc : cts.all flatCT = true) {xs : List (List D)} {vals : List Value} (h : RowRep w F cts xs vals) : RowRep w' F' cts xs vals :=
  fun i hi => ⟨(h i hi).1, fun j ct hj => flat_rep (List.all_eq_true.1 hc ct (List.mem_of_getElem? hj)) ((h i hi).2 j ct hj)⟩
theorem meets_row0 {Φ : FuncId → List D → List D} {lt : Nat → Option LoopSig} {pre : FuncId → List D → Prop} (hmx : P.follows .mixedOrders = true) (hM : ∀ f S, sg f = some S → MeetsAt P f S pre Φ) {f : FuncId} {fn : Func} {c : Code} {S : Sig}
    {q : TypeId × List CT × List (Bool × List CT)} (hf : P.funcs[f]? = some fn) (hb : fn.body = some c) (hname : (fn.name == "runtime.NumGoroutine") = false) (hl : ∀ b ∈ Code.loops c, ∀ L, (firstRegion b).bind lt = some L → LoopMeets P Φ (pre L.key) L b) {vt : VT} (hvt : rowVT P sg lt q fn c = vt)
    (hrs : S.rs = []) (hres : fn.results.toList = []) (hflat : q.2.1.all flatCT = true)
    {preF : List D → Prop} {fnD : List D → List D} (h : ∀ ds, Fits ((false, [.sl q.1 q.2.1]) :: q.2.2) ds → preF ds → vt.ok Φ ds pre (fun out => out = fnD ds)) : MeetsRow P f S q preF fnD := by
  refine ⟨fun args w => ?_, fun w F v vs xs vals ds hF hown hrow hown2 hargs hpre => ?_⟩
  · have h1 : fn.name ≠ "runtime.NumGoroutine" := by simpa using hname
    simp [callFunc, hf, h1, hb]
  · have hargs' : ArgsRep w (fun b => F b ∨ ownB v = some b) ((false, [.sl q.1 q.2.1]) :: q.2.2) (v :: vs) (.l xs :: ds) :=
      ⟨[.l xs], ds, rfl, ⟨[v], rfl, own_rep hown hrow (fun b hb => .inl hb) fun b hb => .inr hb, trivial⟩, hargs.mono (fun b hb => .inl hb) fun _ _ => rfl⟩
    have ht := h (.l xs :: ds) (args_fits hargs') hpre
    rw [← hvt] at ht
    unfold rowVT at ht
    refine calls_of_wp hf hb ?_
    let gh : Gh := ⟨fun _ => none, fun _ => v, fun r => if r = 0 then 1 else 0, F⟩
    let a0 : Act := { tmps := (v :: vs).toArray ++ Array.replicate (fn.ntmps - (v :: vs).toArray.size) undef, defers := [] }
    let K : Ctx := ⟨Φ, .l xs :: ds, fun b => b < w.heap.size ∧ ownB v ≠ some b, w, fun _ => true, a0, gh⟩
    have hlen := args_length hargs
    obtain ⟨s1, s2⟩ := initSlots_rel (K := K) (gh := gh) (w := w) (j := 1) hargs (fun i _ => by
      show (D.l xs :: ds).getD (1 + i) default = _
      rw [Nat.add_comm, List.getD_cons_succ])
    have hone : ∀ r x, (rowSt q fn.ntmps).has r x → r = 0 ∧ x = ⟨tt, .row q.1 q.2.1 (.var 0) 1 false⟩ := fun r x hx => by
      unfold St.has rowSt at hx
      cases r with
      | zero => simp only [List.getElem?_cons_zero, Option.some.injEq] at hx; exact ⟨rfl, hx.symm⟩
      | succ r => simp at hx
    have hI : Inv K (rowSt q fn.ntmps) gh a0 w := by
      refine ⟨rfl, ?_, fun n s hs => ?_, fun n _ => rfl, rfl, rfl, rfl, Nat.le_refl _, fun _ _ => rfl, fun _ hb => hb.1, hF, fun r b hb => (by cases hb), fun r hr => ?_, fun r x hx _ => ?_, fun r x b hx _ hl => ?_,
        fun r x r' x' b hx _ hx' _ _ _ => ?_, Gh.le.refl _, fun _ hb => .inl hb⟩
      · simp only [a0, rowSt, Array.size_append, List.size_toArray, Array.size_replicate, List.length_append, List.length_replicate, List.length_cons, s1, hlen]
      · simp only [rowSt] at hs
        by_cases hn : n < (initSlots 1 q.2.2).length + 1
        · rw [List.getElem?_append_left (by simpa using hn)] at hs
          have hn' : n < (v :: vs).length := by rw [List.length_cons, ← s1]; exact hn
          have e : a0.tmps.getD n undef = (v :: vs).getD n undef := by
            simp only [a0, Array.getD_eq_getD_getElem?]
            rw [Array.getElem?_append_left (by simpa using hn')]
            simp [List.getD]
          rw [e]
          cases n with
          | zero =>
            simp only [List.getElem?_cons_zero, Option.some.injEq] at hs
            subst hs
            exact ⟨hown.slice, Nat.le_refl _, Nat.le_refl _, fun _ => rfl⟩
          | succ n =>
            simp only [List.getElem?_cons_succ] at hs
            exact s2 n s hs
        · rw [List.getElem?_append_right (by simp; omega), List.getElem?_replicate] at hs
          split at hs
          · simp only [Option.some.injEq] at hs
            subst hs
            have hn' : (v :: vs).length ≤ n := by rw [List.length_cons, ← s1]; omega
            show a0.tmps.getD n undef = undef
            simp only [a0, Array.getD_eq_getD_getElem?]
            rw [Array.getElem?_append_right (by simpa using hn'), Array.getElem?_replicate]
            split <;> rfl
          · cases hs
      · by_cases e : r = 0
        · subst e; exact ⟨_, rfl, rfl⟩
        · simp only [gh, if_neg e] at hr; omega
      · obtain ⟨rfl, rfl⟩ := hone r x hx
        refine ⟨rfl, Nat.le_refl _, fun p n c hp hc => ?_, xs, vals, rfl, hown, hrow⟩
        rcases hown with ⟨_, _, p', e⟩ | ⟨g, cap, cur, e, _⟩
        · have hp : v = .slice (some p) n c := hp
          rw [e] at hp
          simp only [Value.slice.injEq] at hp
          omega
        · have hp : v = .slice (some p) n c := hp
          rw [e] at hp
          simp only [Value.slice.injEq, Option.some.injEq] at hp
          exact ⟨g, hp.1.symm⟩
      · obtain ⟨rfl, rfl⟩ := hone r x hx
        have hl : ownB v = some b := hl
        obtain ⟨o1, o2⟩ := hown2 b hl
        exact ⟨fun hp => hp.2 hl, o1, o2⟩
      · obtain ⟨rfl, rfl⟩ := hone r x hx
        obtain ⟨rfl, rfl⟩ := hone r' x' hx'
        rfl
    have hleaf : ∀ k τ gh' a' w' δ, ((rowLeaf q k τ).ok Φ ((.l xs :: ds) ++ δ) pre fun out => out = fnD (.l xs :: ds)) → Inv { K with ρ := (.l xs :: ds) ++ δ } τ gh' a' w' →
        a'.defers = [] ∧ ∃ u, (results fn a'.tmps).run P w' = .ok u w' ∧ ∃ v' xs' vals', fnD (.l xs :: ds) = [.l xs'] ∧ OwnR w' q.1 q.2.1.length v' xs'.length vals' ∧ RowRep w F q.2.1 xs' vals' ∧ w.grownBy w' (ownB v) ∧
          (∀ b, ownB v' = some b → ownB v = some b ∨ (b = w.heap.size ∧ b < w'.heap.size)) ∧ (if S.rs.isEmpty then Ending.returned u = .returned undef ∧ v' = v else Ending.returned u = .returned v') := by
      intro k τ gh' a' w' δ hk hI'
      have hk' : ∃ g content, τ.res.getD 0 none = some ⟨g, .row q.1 q.2.1 content 1 false⟩ ∧ isTt g = true ∧ [content.d Φ ((.l xs :: ds) ++ δ)] = fnD (.l xs :: ds) := by
        cases k with
        | exit id => exact hk.elim
        | normal =>
          simp only [rowLeaf] at hk
          split at hk
          · rename_i g e cts content ver hr
            split at hk
            · rename_i hc
              simp only [Bool.and_eq_true, beq_iff_eq] at hc
              obtain ⟨⟨⟨hc1, rfl⟩, rfl⟩, hc4⟩ := hc
              have hc4 := CT.beqs_eq _ _ hc4
              subst hc4
              exact ⟨g, content, hr, hc1, hk⟩
            · exact hk.elim
          · exact hk.elim
        | ret =>
          simp only [rowLeaf] at hk
          split at hk
          · rename_i g e cts content ver hr
            split at hk
            · rename_i hc
              simp only [Bool.and_eq_true, beq_iff_eq] at hc
              obtain ⟨⟨⟨hc1, rfl⟩, rfl⟩, hc4⟩ := hc
              have hc4 := CT.beqs_eq _ _ hc4
              subst hc4
              exact ⟨g, content, hr, hc1, hk⟩
            · exact hk.elim
          · exact hk.elim
      obtain ⟨g, content, hr, hg, hd⟩ := hk'
      have hhas := getD_has hr
      obtain ⟨r1, _, _, xs', vals', hcd, hown', hrow'⟩ := hI'.res 0 _ hhas (isTt_sound hg)
      have hrv : gh'.rv 0 = v := hI'.le0.rv 0 (by show 1 ≤ 1; omega) (by rw [r1]; rfl)
      obtain ⟨u, hu, hrep⟩ := results_run (P := P) (fn := fn) (rs := []) (es := []) hI' (by rw [hres]; rfl)
      have hu0 : u = undef := hrep
      subst hu0
      rw [hrv] at hown'
      refine ⟨hI'.defers, undef, hu, v, xs', vals', ?_, hown', rowRep_flat hflat hrow', ⟨hI'.os, hI'.tape, hI'.output, hI'.grow, fun b hb hne => hI'.pr b ⟨hb, fun e => hne e.symm⟩⟩, fun b hb => .inl hb, ?_⟩
      · rw [← hd]
        exact congrArg (fun z => [z]) hcd
      · rw [hrs]
        exact ⟨rfl, rfl⟩
    have hlen0 : 1 + (q.2.2.map fun p => p.2.length).sum = K.ρ.length := by
      have h1 := (args_fits hargs).1
      show _ = (D.l xs :: ds).length
      rw [List.length_cons, h1, flatCts_length, Nat.add_comm]
    refine ex_ok (K := K) hmx hM c hl rfl rfl hlen0 hI (OT.ok_vt ht) fun k τ gh' a' w' δ hk hI' => ?_
    have := hleaf k τ gh' a' w' δ hk hI'
    cases k with
    | normal => exact this
    | ret => exact this
    | exit id => exact hk.elim
theorem meets_row {Φ : FuncId → List D → List D} {lt : Nat → Option LoopSig} {pre : FuncId → List D → Prop} (hmx : P.follows .mixedOrders = true) (hM : ∀ f S, sg f = some S → MeetsAt P f S pre Φ) {f : FuncId} {fn : Func} {c : Code} {S : Sig}
    {q : TypeId × List CT × List (Bool × List CT)} (hf : P.funcs[f]? = some fn) (hb : fn.body = some c) (hname : (fn.name == "runtime.NumGoroutine") = false) (hl : ∀ b ∈ Code.loops c, ∀ L, (firstRegion b).bind lt = some L → LoopMeets P Φ (pre L.key) L b) {vt : VT} (hvt : (rowVT P sg lt q fn c).slim (1 + (q.2.2.map fun p => p.2.length).sum) [] = vt)
    (hrs : S.rs = []) (hres : fn.results.toList = []) (hflat : q.2.1.all flatCT = true)
    {preF : List D → Prop} {fnD : List D → List D} (h : ∀ ds, Fits ((false, [.sl q.1 q.2.1]) :: q.2.2) ds → preF ds → vt.ok Φ ds pre (fun out => out = fnD ds)) : MeetsRow P f S q preF fnD :=
  meets_row0 hmx hM hf hb hname hl rfl hrs hres hflat fun ds h1 h2 => VT.slim_ok (by rw [h1.1, flatCts_length]; simp) (fun k hk => by cases hk) (hvt ▸ h ds h1 h2)
theorem meetsRow_none {f : FuncId} {fn : Func} {c : Code} {S : Sig} {q : TypeId × List CT × List (Bool × List CT)} {fnD : List D → List D} (hf : P.funcs[f]? = some fn) (hb : fn.body = some c) (hname : (fn.name == "runtime.NumGoroutine") = false) : MeetsRow P f S q (fun _ => False) fnD := by
  refine ⟨fun args w => ?_, fun w F v vs xs vals ds _ _ _ _ _ h => h.elim⟩
  have h1 : fn.name ≠ "runtime.NumGoroutine" := by simpa using hname
  simp [callFunc, hf, h1, hb]
end
end Go.RV
