/-
  RV, part 16: code; loops.
-/
import Derived.Test.YthnilbkkihmpoaaRvShare
namespace Go.RV
open Go.RowKit

section
variable {P : Program} {K : Ctx} {σ : St} {gh : Gh} {a : Act} {w : World} {sg : FuncId → Option Sig}

theorem Inv.retell (h : Inv K σ gh a w) {n : Nat} {s : SV} (hs : SV.rel K.Φ K.ρ w gh s (a.tmps.getD n undef)) : Inv K ⟨σ.slots.set n s, σ.res⟩ gh a w := by
  refine ⟨h.defers, by simp [h.size], fun m t ht => ?_, h.kept, h.os, h.tape, h.output, h.grow, h.pr, h.prlt, h.Flt, h.beta, h.vr0, h.res, h.own, h.inj, h.le0, h.Fpr⟩
  simp only [List.getElem?_set] at ht
  split at ht
  · rename_i e
    subst e
    split at ht
    · simp only [Option.some.injEq] at ht
      subst ht
      exact hs
    · cases ht
  · exact h.slot m t ht

theorem Inv.recell (h : Inv K σ gh a w) {r : Nat} {g : X} {ety : TypeId} {cells cells' : List SC} {z : Bool} (hx : σ.has r ⟨g, .box ety cells z⟩) (hg : (g.d K.Φ K.ρ).bool = true)
    (hc : ∀ vs, relS K.Φ K.ρ w gh cells vs → relS K.Φ K.ρ w gh cells' vs) : Inv K ⟨σ.slots, σ.res.set r (some ⟨g, .box ety cells' z⟩)⟩ gh a w := by
  have hlt : r < σ.res.length := (List.getElem?_eq_some_iff.1 hx).1
  have hlive : (RK.box ety cells' z).live gh r = (RK.box ety cells z).live gh r := by cases z <;> rfl
  refine h.step (T := fun q => q = r) ⟨Gh.le.refl gh, rfl, rfl, rfl, Nat.le_refl _, fun q hq => ⟨by simp [Ne.symm hq], rfl, rfl, rfl⟩, fun _ _ _ => rfl, h.Flt, fun b hb => .inl hb,
    fun q y hT hy hony => ?_, fun q y b hT hy hony hl => ?_, fun q y q' y' c hT hT' _ _ _ _ _ _ => hT.trans hT'.symm, fun q b hT hb => ?_, fun q hT hr => ?_⟩
  · subst hT
    rw [getElem?_set_has hlt] at hy
    simp only [Option.some.injEq] at hy
    subst hy
    obtain ⟨b, cur, h1, h2, h3, h4⟩ := h.res q _ hx hg
    exact ⟨b, cur, h1, h2, hc _ h3, h4⟩
  · subst hT
    rw [getElem?_set_has hlt] at hy
    simp only [Option.some.injEq] at hy
    subst hy
    rw [hlive] at hl
    obtain ⟨o1, o2, o3⟩ := h.own q _ b hx hg hl
    exact ⟨o1, o2, o3, fun r2 x2 hT2 hx2 hon2 hl2 => hT2 (h.inj r2 x2 q _ b hx2 hon2 hx hg hl2 hl)⟩
  · subst hT
    exact ⟨_, getElem?_set_has hlt, hg⟩
  · subst hT
    exact ⟨_, getElem?_set_has hlt, hg⟩

theorem relS_set {Φ : FuncId → List D → List D} {ρ : List D} : ∀ {cs : List SC} {vs : List Value} {off : Nat} {c : SC}, relS Φ ρ w gh cs vs → (∀ s, cs[off]? = some s → SC.rel Φ ρ w gh c (vs.getD off undef)) → relS Φ ρ w gh (cs.set off c) vs
  | [], [], _, _, h, _ => h
  | s :: cs, v :: vs, 0, c, h, hc => ⟨by simpa using hc s rfl, h.2⟩
  | s :: cs, v :: vs, off + 1, c, h, hc => ⟨h.1, relS_set h.2 (fun t ht => by simpa using hc t (by simpa using ht))⟩
  | [], _ :: _, _, _, h, _ => h.elim
  | _ :: _, [], _, _, h, _ => h.elim

theorem nilRow (h : Inv K σ gh a w) (e : TypeId) (cts : List CT) : ∃ gh', Inv K ⟨σ.slots, σ.res ++ [some ⟨tt, .row e cts .lnil 1 false⟩]⟩ gh' a w ∧ gh.le gh' ∧ gh'.rv σ.res.length = .slice none 0 0 ∧ gh'.vr σ.res.length = 1 := by
  have h1 := h.addRes 1
  obtain ⟨gh', hI, hle, hrv, hvr, _⟩ := row_step (w' := w) h1 (r := σ.res.length) (by simp) (ob := none) (fun b hb => by cases hb) (ver := 1) (by rw [new_ver0 h1 (by simp)]; omega) (g := tt) rfl
    ⟨rfl, rfl, rfl, Nat.le_refl _, fun _ _ _ => rfl⟩ (e := e) (cts := cts) (content := .lnil) (xs := []) rfl (v := .slice none 0 0) (vals := []) (.inl ⟨rfl, rfl, _, rfl⟩) (fun i hi => by simp at hi) (fun b hb => by cases hb)
  refine ⟨gh', ?_, hle, hrv, hvr⟩
  simpa using hI

theorem nilAt_ok (h : Inv K σ gh a w) {p : Nat × Option Nat} {e : TypeId} {cts : List CT} {σ' : St} (hn : nilAt σ p e cts = some σ') : ∃ gh', Inv K σ' gh' a w ∧ gh.le gh' := by
  obtain ⟨gh', hI, hle, hrv, hvr⟩ := nilRow h e cts
  obtain ⟨n, q⟩ := p
  cases q with
  | none =>
    simp only [nilAt] at hn
    split at hn
    · rename_i hs
      simp only [Option.some.injEq] at hn
      subst hn
      have hv : a.tmps.getD n undef = .slice none 0 0 := by
        have := h.opd (.tmp n)
        simp only [St.opd, hs] at this
        exact this.1
      refine ⟨gh', hI.retell (n := n) (s := .c (.row σ.res.length 1)) ?_, hle⟩
      rw [hv]
      exact ⟨⟨_, _, _, rfl⟩, Nat.le_refl _, by rw [hvr]; exact Nat.le_refl _, fun _ => hrv.symm⟩
    · cases hn
  | some off =>
    simp only [nilAt] at hn
    split at hn
    · rename_i g ety cells hx
      split at hn
      · rename_i hc
        split at hn
        · rename_i hg
          simp only [Option.some.injEq] at hn
          subst hn
          have hxh : σ.has n ⟨g, .box ety cells false⟩ := getD_has hx
          have hnl : n < σ.res.length := (List.getElem?_eq_some_iff.1 hxh).1
          have hxh' : (⟨σ.slots, σ.res ++ [some ⟨tt, .row e cts .lnil 1 false⟩]⟩ : St).has n ⟨g, .box ety cells false⟩ := by
            unfold St.has at hxh ⊢
            rw [List.getElem?_append_left hnl]; exact hxh
          have h2 := hI.recell hxh' (isTt_sound hg) (cells' := cells.set off (.row σ.res.length 1)) fun vs hr => relS_set hr fun s hs => by
            rw [hc] at hs
            simp only [Option.some.injEq] at hs
            subst hs
            have := relS_get hr hc
            rw [this.1]
            exact ⟨⟨_, _, _, rfl⟩, Nat.le_refl _, by rw [hvr]; exact Nat.le_refl _, fun _ => hrv.symm⟩
          refine ⟨gh', ?_, hle⟩
          rw [List.set_append_left _ _ hnl] at h2
          exact h2
        · cases hn
      · cases hn
    · cases hn

theorem nilsAt_ok : ∀ {ps : List (Nat × Option Nat × TypeId)} {σ : St} {gh : Gh} {σ' : St}, Inv K σ gh a w → nilsAt P ps σ = some σ' → ∃ gh', Inv K σ' gh' a w ∧ gh.le gh'
  | [], σ, gh, σ', h, hn => by
    simp only [nilsAt, Option.some.injEq] at hn
    subst hn
    exact ⟨gh, h, Gh.le.refl gh⟩
  | p :: ps, σ, gh, σ', h, hn => by
    unfold nilsAt at hn
    split at hn
    · split at hn
      · rename_i σ1 h1
        obtain ⟨gh1, hI, hle⟩ := nilAt_ok h h1
        obtain ⟨gh2, hI2, hle2⟩ := nilsAt_ok hI hn
        exact ⟨gh2, hI2, hle.trans hle2⟩
      · cases hn
    · cases hn

theorem OT.ok_bind {Φ : FuncId → List D → List D} {pre : FuncId → List D → Prop} {leaf : List D → EK → St → Prop} {f : EK → Nat → St → OT} : ∀ {t : OT} {n : Nat} {ρ : List D}, n = ρ.length → (t.bind n f).ok Φ pre leaf ρ → t.ok Φ pre (fun ρ' k σ => (f k ρ'.length σ).ok Φ pre leaf ρ') ρ
  | .fin _ _, n, ρ, hn, h => by subst hn; exact h
  | .need _ _ _, n, ρ, hn, h => ⟨h.1, OT.ok_bind hn h.2⟩
  | .ite c x y, n, ρ, hn, h => by
    unfold OT.bind OT.ok at h
    unfold OT.ok
    split
    · rename_i hc; rw [if_pos hc] at h; exact OT.ok_bind hn h
    · rename_i hc; rw [if_neg hc] at h; exact OT.ok_bind hn h
  | .lt c k t, n, ρ, hn, h => by
    unfold OT.bind OT.ok at h
    unfold OT.ok
    exact OT.ok_bind (by simp [hn]) h
  | .fail, _, _, _, h => h

def EK.out : EK → Exit
  | .normal => .normal
  | .exit id => .exit id
  | .ret => .ret

/-- THE CONTRACT OF A LOOP -/
def LoopMeets (P : Program) (Φ : FuncId → List D → List D) (pre : List D → Prop) (L : LoopSig) (body : Code) : Prop :=
  ∀ (K : Ctx) (gh : Gh) (a : Act) (w : World) (Q : Exit → Act → World → Prop), K.Φ = Φ → K.wok = (fun n => L.ws.contains n) → K.ρ.length = L.nv → pre K.ρ → Inv K L.head gh a w →
    (∀ (ρf : List D) (gh' : Gh) (a' : Act) (w' : World) (k : EK) (vals : List D) (j : Nat), Φ L.key K.ρ = .i j :: vals → L.exits[j]? = some k → ρf = setVars K.ρ L.wv vals → Inv { K with ρ := ρf, gh0 := gh' } L.head gh' a' w' → LoopLe L K.Pr gh gh' → Q k.out a' w') →
    (Code.loop body).wp P Q a w

theorem exitsOT_ok {Φ : FuncId → List D → List D} {ρ : List D} {pre : FuncId → List D → Prop} {leaf : List D → EK → St → Prop} {c : X} {τ : St} : ∀ {es : List EK} {k0 : Nat}, (exitsOT c τ k0 es).ok Φ pre leaf ρ → ∀ {j : Nat} {k : EK}, (c.d Φ ρ).int = ((k0 + j : Nat) : Int) → es[j]? = some k → leaf ρ k τ
  | [], _, h, _, _, _, _ => h.elim
  | [e], k0, h, j, k, hc, hk => by
    cases j with
    | zero => simp only [List.getElem?_cons_zero, Option.some.injEq] at hk; subst hk; exact h
    | succ j => simp at hk
  | e :: e2 :: es, k0, h, j, k, hc, hk => by
    unfold exitsOT OT.ok at h
    simp only [X.d, Op2.ev, D.bool_b, D.int_i, beq_iff_eq, hc] at h
    cases j with
    | zero =>
      simp only [List.getElem?_cons_zero, Option.some.injEq] at hk
      subst hk
      rw [if_pos (by simp)] at h
      exact h
    | succ j =>
      rw [if_neg (by omega)] at h
      exact exitsOT_ok h (j := j) (by rw [hc]; congr 1; omega) (by simpa using hk)

theorem Inv.rebase (h : Inv K σ gh a w) : Inv { K with gh0 := gh } σ gh a w :=
  ⟨h.defers, h.size, h.slot, h.kept, h.os, h.tape, h.output, h.grow, h.pr, h.prlt, h.Flt, h.beta, h.vr0, h.res, h.own, h.inj, Gh.le.refl gh, fun _ hb => .inl hb⟩

theorem loopEx_ok {lt : Nat → Option LoopSig} {pre : FuncId → List D → Prop} {body : Code} (hloop : ∀ L, (firstRegion body).bind lt = some L → LoopMeets P K.Φ (pre L.key) L body) {Q : Exit → Act → World → Prop} {leaf : List D → EK → St → Prop} {n : Nat} (hn : n = K.ρ.length)
    (h : Inv K σ gh a w) (ht : (loopEx P K.wok lt body n σ).ok K.Φ pre leaf K.ρ) (hQ : ∀ k σ' gh' a' w' δ, leaf (K.ρ ++ δ) k σ' → Inv { K with ρ := K.ρ ++ δ } σ' gh' a' w' → Q k.out a' w') : (Code.loop body).wp P Q a w := by
  unfold loopEx at ht
  split at ht
  · exact ht.elim
  · rename_i L hL
    split at ht
    · exact ht.elim
    · rename_i σ1 hnl
      split at ht
      · exact ht.elim
      · rename_i args hm
        simp only at ht
        split at ht
        · rename_i hws
          simp only [Bool.and_eq_true] at hws
          obtain ⟨⟨hws, hcb⟩, hsb⟩ := hws
          obtain ⟨hp, ht⟩ := ht
          have hp := hp rfl
          simp only [Nd.holds, ds_consX] at hp
          obtain ⟨gh1, h1, hle1⟩ := nilsAt_ok h hnl
          have hI := loop_enter h1 hm
          obtain ⟨l, m, hk⟩ := match_ok hm
          refine hloop L hL (loopCtx K L args σ1 gh1 a w) _ a w Q rfl rfl (by simp [loopCtx, hk.len]) hp hI fun ρf gh' a' w' k vals j hfn hex hρf hI' hle => ?_
          obtain ⟨h2, _⟩ := loop_leave h1 hm hws (K' := { loopCtx K L args σ1 gh1 a w with ρ := ρf, gh0 := gh' }) (code := .i j) (vals := vals) rfl hρf rfl rfl rfl rfl hI' hle hfn
          have h3 := h2.share (c := .app L.key (consX args) 0) (k := L.wv.length + 1) hn hsb
          have hfn' : K.Φ L.key (args.map (X.d K.Φ K.ρ)) = .i j :: vals := hfn
          have hc : ((X.var n).d K.Φ (K.ρ ++ takeD (L.wv.length + 1) ((X.app L.key (consX args) 0).outs K.Φ K.ρ))).int = ((0 + j : Nat) : Int) := by
            have := repl_var (Φ := K.Φ) (k := L.wv.length + 1) hn (out := (X.app L.key (consX args) 0).outs K.Φ K.ρ) (j := 0) (by omega)
            have ev : X.var n = X.var (n + 0) := rfl
            rw [ev, this]
            simp only [X.outs, ds_consX, hfn', List.getD_cons_zero, D.int_i, Nat.zero_add]
          exact hQ k _ _ _ _ _ (exitsOT_ok ht hc hex) h3
        · exact ht.elim

theorem Exit.then_out {Kn : Act → World → Prop} {Q : Exit → Act → World → Prop} {k : EK} (h : k ≠ .normal) : Exit.then Kn Q k.out = Q k.out := by
  cases k with
  | normal => exact absurd rfl h
  | exit id => rfl
  | ret => rfl

theorem ex_ok {lt : Nat → Option LoopSig} {pre : FuncId → List D → Prop} {Φ : FuncId → List D → List D} {wok : Nat → Bool} (hmx : P.follows .mixedOrders = true) (hM : ∀ f S, sg f = some S → MeetsAt P f S pre Φ) :
    ∀ (c : Code) (_ : ∀ b ∈ Code.loops c, ∀ L, (firstRegion b).bind lt = some L → LoopMeets P Φ (pre L.key) L b) {K : Ctx} {σ : St} {gh : Gh} {a : Act} {w : World} {Q : Exit → Act → World → Prop} {leaf : List D → EK → St → Prop} {n : Nat},
      K.Φ = Φ → K.wok = wok → n = K.ρ.length → Inv K σ gh a w → (ex P sg wok lt c n σ).ok Φ pre leaf K.ρ → (∀ k σ' gh' a' w' δ, leaf (K.ρ ++ δ) k σ' → Inv { K with ρ := K.ρ ++ δ } σ' gh' a' w' → Q k.out a' w') → c.wp P Q a w := by
  intro c
  induction c with
  | skip =>
    intro _ K σ gh a w Q leaf n hΦ hwok hn h ht hQ
    exact wp_skip (hQ .normal σ gh a w [] (by rw [List.append_nil]; exact ht) (by rw [List.append_nil]; exact h))
  | region id ops draw =>
    intro _ K σ gh a w Q leaf n hΦ hwok hn h ht hQ
    unfold ex at ht
    split at ht
    · rename_i σ' nd hr
      obtain ⟨hnd, δ, σ2, h1, h2⟩ := share_ok hΦ hn ht
      rw [← hwok] at hr
      exact region_ok h hr hmx (by rw [hΦ]; exact hM) hnd fun gh' a' w' h' => hQ .normal σ2 gh' a' w' δ h1 (h2 gh' a' w' h')
    · exact ht.elim
  | seq x y ihx ihy =>
    intro hl K σ gh a w Q leaf n hΦ hwok hn h ht hQ
    unfold ex at ht
    refine wp_seq (ihx (fun b hb => hl b (by simp [Code.loops, hb])) hΦ hwok hn h (OT.ok_bind hn ht) fun k σ' gh' a' w' δ hk h' => ?_)
    cases k with
    | normal =>
      refine ihy (fun b hb => hl b (by simp [Code.loops, hb])) (K := { K with ρ := K.ρ ++ δ }) hΦ hwok rfl h' hk fun k2 σ2 gh2 a2 w2 δ2 hk2 h2 => ?_
      have e : (({ K with ρ := K.ρ ++ δ } : Ctx).ρ ++ δ2) = K.ρ ++ (δ ++ δ2) := List.append_assoc ..
      rw [e] at hk2 h2
      exact hQ k2 σ2 gh2 a2 w2 _ hk2 h2
    | exit id => exact hQ (.exit id) σ' gh' a' w' δ hk h'
    | ret => exact hQ .ret σ' gh' a' w' δ hk h'
  | cond c x y ihx ihy =>
    intro hl K σ gh a w Q leaf n hΦ hwok hn h ht hQ
    unfold ex at ht
    have hc := h.opd c
    split at ht
    · rename_i e he
      rw [he] at hc
      obtain ⟨hv, _⟩ := rep_bool hc
      refine wp_cond hv ?_
      split at ht
      · simp only [X.d, D.bool_b, if_true]
        exact ihx (fun b hb => hl b (by simp [Code.loops, hb])) hΦ hwok hn h ht hQ
      · simp only [X.d, D.bool_b, Bool.false_eq_true, if_false]
        exact ihy (fun b hb => hl b (by simp [Code.loops, hb])) hΦ hwok hn h ht hQ
      · unfold OT.ok at ht
        rw [← hΦ] at ht
        split
        · rename_i hb
          rw [if_pos hb] at ht
          exact ihx (fun b hb => hl b (by simp [Code.loops, hb])) hΦ hwok hn h (by rw [← hΦ]; exact ht) hQ
        · rename_i hb
          rw [if_neg hb] at ht
          exact ihy (fun b hb => hl b (by simp [Code.loops, hb])) hΦ hwok hn h (by rw [← hΦ]; exact ht) hQ
    · exact ht.elim
  | block id x ihx =>
    intro hl K σ gh a w Q leaf n hΦ hwok hn h ht hQ
    unfold ex at ht
    refine wp_block (ihx hl hΦ hwok hn h (OT.ok_bind hn ht) fun k σ' gh' a' w' δ hk h' => ?_)
    split at hk
    · rename_i e
      subst e
      show (if id = id then Q .normal a' w' else Q (.exit id) a' w')
      rw [if_pos rfl]
      exact hQ .normal σ' gh' a' w' δ hk h'
    · rename_i e
      have := hQ k σ' gh' a' w' δ hk h'
      cases k with
      | normal => exact this
      | ret => exact this
      | exit id' =>
        show (if id' = id then Q .normal a' w' else Q (.exit id') a' w')
        rw [if_neg (by rintro rfl; exact e rfl)]
        exact this
  | loop x ihx =>
    intro hl K σ gh a w Q leaf n hΦ hwok hn h ht hQ
    unfold ex at ht
    subst hΦ
    subst hwok
    exact loopEx_ok (hl x (by simp [Code.loops])) hn h ht hQ
  | exit id =>
    intro _ K σ gh a w Q leaf n hΦ hwok hn h ht hQ
    exact wp_exit (hQ (.exit id) σ gh a w [] (by rw [List.append_nil]; exact ht) (by rw [List.append_nil]; exact h))
  | ret =>
    intro _ K σ gh a w Q leaf n hΦ hwok hn h ht hQ
    exact wp_ret (hQ .ret σ gh a w [] (by rw [List.append_nil]; exact ht) (by rw [List.append_nil]; exact h))
  | rangeFunc f ps as b iha ihb =>
    intro _ _ _ _ _ _ _ _ _ _ _ _ _ ht _
    exact ht.elim
  | refuse =>
    intro _ _ _ _ _ _ _ _ _ _ _ _ _ ht _
    exact ht.elim
  | scope x ihx =>
    intro _ _ _ _ _ _ _ _ _ _ _ _ _ ht _
    exact ht.elim
  | goto l =>
    intro _ _ _ _ _ _ _ _ _ _ _ _ _ ht _
    exact ht.elim
  | label l =>
    intro _ _ _ _ _ _ _ _ _ _ _ _ _ ht _
    exact ht.elim

/-! ### conditions on data -/
def VT.ok (Φ : FuncId → List D → List D) (ρ : List D) (pre : FuncId → List D → Prop) (leaf : List D → Prop) : VT → Prop
  | .ret as => leaf (as.ds Φ ρ)
  | .need g n t => ((g.d Φ ρ).bool = true → n.holds pre Φ ρ) ∧ VT.ok Φ ρ pre leaf t
  | .ite c x y => if (c.d Φ ρ).bool = true then VT.ok Φ ρ pre leaf x else VT.ok Φ ρ pre leaf y
  | .lt c k t => VT.ok Φ (ρ ++ takeD k (c.outs Φ ρ)) pre leaf t
  | .bad => False

theorem OT.ok_vt {Φ : FuncId → List D → List D} {pre : FuncId → List D → Prop} {leafV : EK → St → VT} {leaf : List D → Prop} : ∀ {t : OT} {ρ : List D}, (t.vt leafV).ok Φ ρ pre leaf → t.ok Φ pre (fun ρ' k σ => (leafV k σ).ok Φ ρ' pre leaf) ρ
  | .fin _ _, _, h => h
  | .need _ _ _, _, h => ⟨h.1, OT.ok_vt h.2⟩
  | .ite c x y, ρ, h => by
    unfold OT.vt VT.ok at h
    unfold OT.ok
    split
    · rename_i hc; rw [if_pos hc] at h; exact OT.ok_vt h
    · rename_i hc; rw [if_neg hc] at h; exact OT.ok_vt h
  | .lt c k t, ρ, h => by
    unfold OT.vt VT.ok at h
    unfold OT.ok
    exact OT.ok_vt h
  | .fail, _, h => h

/-- a loop with a thing that goes with each round -/
theorem wp_loop_ghost {α : Type} {c : Code} {Q : Exit → Act → World → Prop} (I : α → Act → World → Prop) (μ : α → Nat) {x : α} (h0 : I x a w)
    (round : ∀ x a w, I x a w → c.wp P (Exit.then (fun a' w' => ∃ x', I x' a' w' ∧ μ x' < μ x) Q) a w) : (Code.loop c).wp P Q a w := by
  have least : ∀ a w, (∃ x, I x a w) → ∃ x, I x a w ∧ ∀ y, I y a w → μ x ≤ μ y := by
    intro a w ⟨x, hx⟩
    have : ∀ n x, μ x = n → I x a w → ∃ x, I x a w ∧ ∀ y, I y a w → μ x ≤ μ y := by
      intro n
      induction n using Nat.strongRecOn with
      | _ n ih =>
        intro x hn hx
        by_cases hy : ∃ y, I y a w ∧ μ y < μ x
        · obtain ⟨y, hy1, hy2⟩ := hy
          exact ih (μ y) (by omega) y rfl hy1
        · refine ⟨x, hx, fun y hy1 => ?_⟩
          apply Nat.le_of_not_lt
          intro hlt
          exact hy ⟨y, hy1, hlt⟩
    exact this _ x rfl hx
  let M : Act → World → Nat := fun a w => open Classical in if h : ∃ x, I x a w then μ (Classical.choose (least a w h)) else 0
  refine wp_loop (fun a w => ∃ x, I x a w) M ⟨x, h0⟩ fun a w ⟨x, hx⟩ => ?_
  have hex : ∃ x, I x a w := ⟨x, hx⟩
  obtain ⟨h1, h2⟩ := Classical.choose_spec (least a w hex)
  have hM : M a w = μ (Classical.choose (least a w hex)) := dif_pos hex
  refine wp_mono (round _ a w h1) fun e a' w' he => ?_
  cases e with
  | normal =>
    obtain ⟨x', hx', hlt⟩ := he
    refine ⟨⟨x', hx'⟩, ?_⟩
    have hex' : ∃ x, I x a' w' := ⟨x', hx'⟩
    obtain ⟨h3, h4⟩ := Classical.choose_spec (least a' w' hex')
    have hM' : M a' w' = μ (Classical.choose (least a' w' hex')) := dif_pos hex'
    rw [hM, hM']
    exact Nat.lt_of_le_of_lt (h4 x' hx') hlt
  | _ => exact he

theorem setVars_again (ρ : List D) (wv : List Nat) (v1 v2 : List D) : setVars (setVars ρ wv v1) wv v2 = setVars ρ wv v2 := by
  apply List.ext_getElem
  · simp [setVars_length]
  · intro i h1 h2
    have hi : i < ρ.length := by rw [setVars_length] at h2; exact h2
    have e1 := setVars_get (setVars ρ wv v1) wv v2 (i := i) (by rw [setVars_length]; exact hi)
    have e2 := setVars_get ρ wv v2 hi
    have e3 := setVars_get ρ wv v1 hi
    have g1 : (setVars (setVars ρ wv v1) wv v2).getD i default = (setVars (setVars ρ wv v1) wv v2)[i] := by simp [List.getD, h1]
    have g2 : (setVars ρ wv v2).getD i default = (setVars ρ wv v2)[i] := by simp [List.getD, h2]
    rw [← g1, ← g2, e1, e2]
    cases hp : posIn i wv with
    | some j => rfl
    | none => simp only; rw [e3, hp]

theorem posIn_none : ∀ {wv : List Nat} {i : Nat}, posIn i wv = none → wv.contains i = false
  | [], _, _ => rfl
  | k :: wv, i, h => by
    unfold posIn at h
    split at h
    · cases h
    · rename_i e
      cases hp : posIn i wv with
      | some j => rw [hp] at h; cases h
      | none =>
        have := posIn_none hp
        simp only [beq_iff_eq] at e
        simp only [List.contains_cons, this, Bool.or_false]
        simp
        exact fun e' => e e'.symm

theorem sameVars_get {wv : List Nat} : ∀ {xs : List X} {i : Nat}, sameVars wv i xs = true → ∀ j, j < xs.length → wv.contains (i + j) = true ∨ xs.getD j .nil = .var (i + j)
  | [], _, _, j, hj => by simp at hj
  | x :: xs, i, h, j, hj => by
    simp only [sameVars, Bool.and_eq_true, Bool.or_eq_true] at h
    cases j with
    | zero =>
      rcases h.1 with h1 | h1
      · exact .inl h1
      · exact .inr (by simpa using X.beq_eq _ _ h1)
    | succ j =>
      have := sameVars_get h.2 j (by simpa using hj)
      have e : i + 1 + j = i + (j + 1) := by omega
      rw [e] at this
      simpa using this

theorem sameRows_get {L : LoopSig} {τ : St} : ∀ {rs : List (Option Res)} {r0 : Nat}, sameRows L τ r0 rs = true → ∀ (r : Nat) g e c i v z, rs[r]? = some (some ⟨g, .row e c (.var i) v z⟩) → L.hv.contains i = true ∨ ∃ g' e' c' x' z', τ.res.getD (r0 + r) none = some ⟨g', .row e' c' x' v z'⟩
  | [], _, _, r, g, e, c, i, v, z, hr => by simp at hr
  | y :: rs, r0, h, r, g, e, c, i, v, z, hr => by
    have tail : sameRows L τ (r0 + 1) rs = true := by
      unfold sameRows at h
      split at h
      · contradiction
      · rename_i e
        simp only [List.cons.injEq] at e
        obtain ⟨_, rfl⟩ := e
        simp only [Bool.and_eq_true] at h
        exact h.2
      · rename_i e
        simp only [List.cons.injEq] at e
        obtain ⟨_, rfl⟩ := e
        exact h
    cases r with
    | zero =>
      simp only [List.getElem?_cons_zero, Option.some.injEq] at hr
      subst hr
      simp only [sameRows, Bool.and_eq_true, Bool.or_eq_true] at h
      rcases h.1 with h1 | h1
      · exact .inl h1
      · refine .inr ?_
        split at h1
        · rename_i g' e' c' x' v' z' hx
          simp only [beq_iff_eq] at h1
          subst h1
          exact ⟨_, _, _, _, _, hx⟩
        · cases h1
    | succ r =>
      have := sameRows_get tail r g e c i v z (by simpa using hr)
      have e : r0 + 1 + r = r0 + (r + 1) := by omega
      rw [e] at this
      exact this

theorem ekPos_get : ∀ {es : List EK} {k : EK} {j : Nat}, ekPos k es = some j → es[j]? = some k
  | [], _, _, h => by simp [ekPos] at h
  | e :: es, k, j, h => by
    unfold ekPos at h
    split at h
    · rename_i e1
      simp only [Option.some.injEq] at h
      subst h e1
      rfl
    · cases hp : ekPos k es with
      | none => rw [hp] at h; cases h
      | some j' =>
        rw [hp] at h
        simp only [Option.map_some, Option.some.injEq] at h
        subst h
        simpa using ekPos_get hp

/-- what one round of a loop must give -/
def RoundOk (Φ : FuncId → List D → List D) (pre : List D → Prop) (μ : List D → Nat) (L : LoopSig) (ρ : List D) : List D → Prop
  | .i c :: vals => if c = -1 then pre (setVars ρ L.wv vals) ∧ μ (setVars ρ L.wv vals) < μ ρ ∧ Φ L.key (setVars ρ L.wv vals) = Φ L.key ρ else Φ L.key ρ = .i c :: vals
  | _ => False

theorem loop_meets0 {Φ : FuncId → List D → List D} {lt : Nat → Option LoopSig} {pre : FuncId → List D → Prop} (hmx : P.follows .mixedOrders = true) (hM : ∀ f S, sg f = some S → MeetsAt P f S pre Φ) {body : Code}
    (hl : ∀ b ∈ Code.loops body, ∀ L, (firstRegion b).bind lt = some L → LoopMeets P Φ (pre L.key) L b) (L : LoopSig) (μ : List D → Nat) {vt : VT} (hvt : loopVT P sg lt L body = vt)
    (h : ∀ ρ, ρ.length = L.nv → pre L.key ρ → vt.ok Φ ρ pre (RoundOk Φ (pre L.key) μ L ρ)) : LoopMeets P Φ (pre L.key) L body := by
  intro K gh a w Q hΦ hwok hlen hpre hI hQ
  let I : List D → Act → World → Prop := fun ρ a w => ρ.length = L.nv ∧ pre L.key ρ ∧ (∀ vals, setVars ρ L.wv vals = setVars K.ρ L.wv vals) ∧ Φ L.key ρ = Φ L.key K.ρ ∧ ∃ gh', Inv { K with ρ := ρ, gh0 := gh' } L.head gh' a w ∧ LoopLe L K.Pr gh gh'
  refine wp_loop_ghost I μ (x := K.ρ) ⟨hlen, hpre, fun _ => rfl, rfl, gh, hI.rebase, LoopLe.refl gh⟩ fun ρ a w ⟨i1, i2, i3, i4, gh', hI', hle⟩ => ?_
  have ht := h ρ i1 i2
  rw [← hvt] at ht
  unfold loopVT at ht
  have hwok' : ({ K with ρ := ρ, gh0 := gh' } : Ctx).wok = (fun n => L.ws.contains n) := hwok
  have ht2 := OT.ok_vt ht
  refine ex_ok (K := { K with ρ := ρ, gh0 := gh' }) hmx hM body hl hΦ hwok' i1.symm hI' ht2 fun k τ gh2 a2 w2 δ hk hI2 => ?_
  rw [← hΦ] at hk
  unfold loopLeaf at hk
  obtain ⟨gh2, hI2⟩ := alignRows_ok L.head hI2
  generalize alignRows L.head τ = τ at hk hI2
  unfold loopLeaf0 at hk
  split at hk
  · exact hk.elim
  · rename_i args hm
    split at hk
    · rename_i hc
      simp only [Bool.and_eq_true] at hc
      obtain ⟨hsv, hsr⟩ := hc
      obtain ⟨l, m, hmo⟩ := match_ok hm
      let vals : List D := (consX (L.wv.map fun i => args.getD i .nil)).ds K.Φ (ρ ++ δ)
      have hvals : vals = L.wv.map fun i => (args.getD i .nil).d K.Φ (ρ ++ δ) := by
        have := ds_consX (K := { K with ρ := ρ ++ δ, gh0 := gh' }) (L.wv.map fun i => args.getD i .nil)
        simp only at this
        show (consX _).ds K.Φ (ρ ++ δ) = _
        rw [this, List.map_map]
        rfl
      have hρ2 : args.map (X.d K.Φ (ρ ++ δ)) = setVars ρ L.wv vals := by
        apply List.ext_getElem
        · rw [setVars_length, List.length_map, hmo.len, i1]
        · intro i h1 h2
          have hi : i < ρ.length := by rw [setVars_length] at h2; exact h2
          have hi' : i < args.length := by simpa using h1
          have g2 : (setVars ρ L.wv vals).getD i default = (setVars ρ L.wv vals)[i] := by simp [List.getD, h2]
          rw [← g2, setVars_get ρ L.wv vals hi, List.getElem_map]
          have hai : args.getD i .nil = args[i] := by simp [List.getD, hi']
          cases hp : posIn i L.wv with
          | some j =>
            have hj := posIn_get hp
            simp only [hvals, List.getD, List.getElem?_map, hj, Option.map_some, Option.getD_some]
            simp [hi']
          | none =>
            have hn := posIn_none hp
            rcases sameVars_get hsv i hi' with h3 | h3
            · rw [Nat.zero_add, hn] at h3; cases h3
            · rw [Nat.zero_add, hai] at h3
              rw [h3]
              simp only [X.d, List.getD]
              rw [List.getElem?_append_left hi]
      have hI3 : ∀ g0, g0 = gh2.cut L.head.res → Inv { K with ρ := setVars ρ L.wv vals, gh0 := g0 } L.head g0 a2 w2 := by
        intro g0 hg0
        subst hg0
        exact match_inv hI2 hm (K' := { K with ρ := setVars ρ L.wv vals, gh0 := gh2.cut L.head.res }) rfl hρ2.symm rfl hI2.kept hI2.os hI2.tape hI2.output hI2.grow hI2.pr hI2.prlt fun r x b hl' hx hon hlive => (hI2.own r x b hx hon hlive).1
      have hle2 : LoopLe L K.Pr gh (gh2.cut L.head.res) := by
        refine hle.trans ⟨fun r b hb => ?_, hI2.le0.F, fun b hb => hI2.Fpr b hb, fun r g e cts i v z hx hn => ?_⟩
        · obtain ⟨x, hx, _⟩ := hI'.beta r b hb
          simp only [Gh.cut, listed_of hx, if_true]
          exact hI2.le0.β r b hb
        · have hx' : L.head.res[r]? = some (some ⟨g, .row e cts (.var i) v z⟩) := hx
          rcases sameRows_get hsr r g e cts i v z hx' with h3 | ⟨g', e', c', x', z', h3⟩
          · rw [hn] at h3; cases h3
          · rw [Nat.zero_add] at h3
            obtain ⟨y, l', h4, h5, h6, h7, _⟩ := (matchRess_get hmo.ress).2 r _ hx'
            have hy : y = ⟨g', .row e' c' x' v z'⟩ := by simp only [List.getD, h4] at h3; simpa using h3
            subst hy
            have ok2 := hI2.res r _ h4 (isTt_sound h6)
            have ok1 := hI'.res r _ hx (isTt_sound h5)
            exact hI2.le0.rv r (by rw [ok1.1]; exact ok1.2.1) (by rw [ok2.1, ok1.1])
      split at hk
      · rename_i hkn
        subst hkn
        simp only [VT.ok, X.ds, X.d] at hk
        have hk' : RoundOk K.Φ (pre L.key) μ L ρ (.i (-1) :: vals) := by
          exact hk
        simp only [RoundOk, if_true] at hk'
        obtain ⟨k1, k2, k3⟩ := hk'
        rw [hΦ] at k3
        refine ⟨setVars ρ L.wv vals, ⟨by rw [setVars_length, i1], k1, fun v => by rw [setVars_again, i3], by rw [k3, i4], gh2.cut L.head.res, hI3 _ rfl, hle2⟩, k2⟩
      · rename_i hkn
        split at hk
        · rename_i j hj
          rw [Exit.then_out hkn]
          simp only [VT.ok, X.ds, X.d] at hk
          have hk' : RoundOk K.Φ (pre L.key) μ L ρ (.i (j : Int) :: vals) := hk
          simp only [RoundOk] at hk'
          rw [if_neg (by omega), hΦ, i4] at hk'
          exact hQ (setVars ρ L.wv vals) (gh2.cut L.head.res) a2 w2 k vals j hk' (ekPos_get hj) (i3 vals) (hI3 _ rfl) hle2
        · exact hk.elim
    · exact hk.elim

end
end Go.RV
