/-
  RV, part 17b: contracts of functions that write, from their runs.
-/
import Derived.Test.YthnilbkkihmpoaaRvFn
namespace Go.RV
open Go.RowKit

def X.isVar : X → Bool | .var _ => true | _ => false
def SC.plain : SC → Bool
  | .x _ e => e.isVar
  | .ra _ _ _ e _ => e.isVar
  | .ea .. => false
  | .pa .. => false
  | .da .. => false
  | _ => true
def SV.plain : SV → Bool
  | .c s => s.plain
  | .agg cs => cs.all SC.plain
  | .und => true
  | .any => true
  | _ => false
def RK.plain : RK → Bool
  | .box _ cs _ => cs.all SC.plain
  | .row _ _ x _ _ => x.isVar
def St.plain (σ : St) : Bool := σ.slots.all SV.plain && σ.res.all fun | some x => isTt x.g && x.k.plain | none => true

section
variable {Φ Φ' : FuncId → List D → List D} {ρ : List D} {w : World} {gh : Gh}
theorem X.d_var {e : X} (h : e.isVar = true) : e.d Φ' ρ = e.d Φ ρ := by
  cases e <;> simp [X.isVar] at h
  rfl
theorem SC.rel_var {s : SC} {v : Value} (h : s.plain = true) : SC.rel Φ' ρ w gh s v ↔ SC.rel Φ ρ w gh s v := by
  cases s with
  | x ct e => simp only [SC.rel, X.d_var (Φ := Φ) (Φ' := Φ') h]
  | ra r ver m e off => simp only [SC.rel, X.d_var (Φ := Φ) (Φ' := Φ') h]
  | ea => simp [SC.plain] at h
  | pa => simp [SC.plain] at h
  | da => simp [SC.plain] at h
  | ptr r off => exact Iff.rfl
  | row r ver => exact Iff.rfl
  | fn f caps => exact Iff.rfl
  | cst c => exact Iff.rfl
  | any => exact Iff.rfl
theorem relS_var : ∀ {cs : List SC} {vs : List Value}, cs.all SC.plain = true → (relS Φ' ρ w gh cs vs ↔ relS Φ ρ w gh cs vs)
  | [], [], _ => Iff.rfl
  | [], _ :: _, _ => Iff.rfl
  | _ :: _, [], _ => Iff.rfl
  | s :: cs, v :: vs, h => by
    simp only [List.all_cons, Bool.and_eq_true] at h
    simp only [relS, SC.rel_var (Φ := Φ) (Φ' := Φ') h.1, relS_var h.2]
theorem SV.rel_var {s : SV} {v : Value} (h : s.plain = true) : SV.rel Φ' ρ w gh s v ↔ SV.rel Φ ρ w gh s v := by
  cases s with
  | c s => exact SC.rel_var h
  | agg cs => simp only [SV.rel, relS_var (Φ := Φ) (Φ' := Φ') (cs := cs) h]
  | und => exact Iff.rfl
  | any => exact Iff.rfl
  | tup => simp [SV.plain] at h
  | grd => simp [SV.plain] at h
theorem ResOk_var {r : Nat} {k : RK} (h : k.plain = true) : ResOk Φ' ρ w gh r k ↔ ResOk Φ ρ w gh r k := by
  cases k with
  | box e cs z => simp only [ResOk, relS_var (Φ := Φ) (Φ' := Φ') (cs := cs) h]
  | row e cts x ver z => simp only [ResOk, X.d_var (Φ := Φ) (Φ' := Φ') (e := x) h]
end

section
variable {P : Program} {K : Ctx} {σ : St} {gh : Gh} {a : Act} {w : World} {sg : FuncId → Option Sig}

theorem Inv.switch (h : Inv K σ gh a w) (hp : σ.plain = true) (Φ' : FuncId → List D → List D) : Inv { K with Φ := Φ' } σ gh a w := by
  simp only [St.plain, Bool.and_eq_true] at hp
  obtain ⟨hs, hr⟩ := hp
  have hx : ∀ r x, σ.has r x → isTt x.g = true ∧ x.k.plain = true := fun r x hx => by
    have := List.all_eq_true.1 hr _ (List.mem_of_getElem? hx)
    simpa using this
  have on : ∀ r x, σ.has r x → x.on K ∧ x.on { K with Φ := Φ' } := fun r x h => ⟨isTt_sound (hx r x h).1, isTt_sound (hx r x h).1⟩
  exact ⟨h.defers, h.size, fun n s hn => (SV.rel_var (List.all_eq_true.1 hs s (List.mem_of_getElem? hn))).2 (h.slot n s hn), h.kept, h.os, h.tape, h.output, h.grow, h.pr, h.prlt, h.Flt, fun r b hb => by
      obtain ⟨x, h1, _⟩ := h.beta r b hb
      exact ⟨x, h1, (on r x h1).2⟩, fun r hr => by
      obtain ⟨x, h1, _⟩ := h.vr0 r hr
      exact ⟨x, h1, (on r x h1).2⟩, fun r x h1 _ => (ResOk_var (hx r x h1).2).2 (h.res r x h1 (on r x h1).1), fun r x b h1 _ h2 => h.own r x b h1 (on r x h1).1 h2, fun r x r' x' b h1 _ h2 _ h3 h4 => h.inj r x r' x' b h1 (on r x h1).1 h2 (on r' x' h2).1 h3 h4, h.le0, h.Fpr⟩

def procLeaf (P : Program) (S : Sig) (L : LoopSig) (m : Nat) (rv : List ResultVar) (k : EK) (σ : St) : VT := match k with
  | .exit _ => .bad
  | _ => match matchHead ⟨[], L.head.res⟩ m ⟨[], σ.res⟩, resAll P σ S.rs rv with
    | some args, some xs => if sameVars L.wv 0 args && sameRows L σ 0 L.head.res && scalars S.rs then .ret (.cons (.n 0) (consX (L.wv.map (fun i => args.getD i .nil) ++ xs))) else .bad
    | _, _ => .bad

/-- the run of a function that writes -/
def procVT (P : Program) (sg : FuncId → Option Sig) (lt : Nat → Option LoopSig) (S : Sig) (L : LoopSig) (m : Nat) (fn : Func) (c : Code) : VT := (ex P sg (fun n => L.ws.contains n) lt c L.nv L.head).vt (procLeaf P S L m fn.results.toList)

theorem proc_meets0 {Φ : FuncId → List D → List D} {lt : Nat → Option LoopSig} {pre : FuncId → List D → Prop} (hmx : P.follows .mixedOrders = true) (hM : ∀ f S, sg f = some S → MeetsAt P f S pre Φ) {f : FuncId} {fn : Func} {c : Code} {S : Sig} {L : LoopSig} {m : Nat}
    (hf : P.funcs[f]? = some fn) (hb : fn.body = some c) (hname : (fn.name == "runtime.NumGoroutine") = false) (hl : ∀ b ∈ Code.loops c, ∀ L, (firstRegion b).bind lt = some L → LoopMeets P Φ (pre L.key) L b) {vt : VT} (hvt : procVT P sg lt S L m fn c = vt)
    (hpl : L.head.plain = true) (hsl : L.head.slots.length = fn.ntmps) (hmn : m ≤ L.nv)
    {preF : List D → Prop} {fnD : List D → List D} (h : ∀ ρ, ρ.length = L.nv → preF ρ → vt.ok Φ ρ pre (fun out => out = fnD ρ)) : ProcMeets P f S L m preF fnD := by
  refine ⟨fun args w => ?_, fun K gh vs w hwok hlen hpre hvl hI => ?_⟩
  · have h1 : fn.name ≠ "runtime.NumGoroutine" := by simpa using hname
    simp [callFunc, hf, h1, hb]
  have ht := h K.ρ hlen hpre
  rw [← hvt] at ht
  unfold procVT at ht
  refine calls_of_wp hf hb ?_
  rw [show ({ tmps := vs.toArray ++ Array.replicate (fn.ntmps - vs.toArray.size) undef, defers := [] } : Act) = frameOf L.head.slots.length vs by rw [hsl]; rfl]
  let K0 : Ctx := { K with Φ := Φ, gh0 := gh }
  have hI0 : Inv K0 L.head gh (frameOf L.head.slots.length vs) w := (hI.switch hpl Φ).rebase
  have hplr : (⟨[], L.head.res⟩ : St).plain = true := by
    simp only [St.plain, Bool.and_eq_true] at hpl ⊢
    exact ⟨rfl, hpl.2⟩
  have hleaf : ∀ k τ gh' a' w' δ, k ≠ .normal ∨ True → ((procLeaf P S L m fn.results.toList k τ).ok Φ (K.ρ ++ δ) pre fun out => out = fnD K.ρ) → Inv { K0 with ρ := K.ρ ++ δ } τ gh' a' w' →
      a'.defers = [] ∧ ∃ v, (results fn a'.tmps).run P w' = .ok v w' ∧ ∃ v0 vals outs gh2 F', fnD K.ρ = .i 0 :: (vals ++ outs) ∧ vals.length = L.wv.length ∧ (Ending.returned v) = .returned v0 ∧ ResRep w' F' S.rs v0 outs ∧
        Inv { K with ρ := setVars (K.ρ.take m) L.wv vals, gh0 := gh2, a0 := noAct } ⟨[], L.head.res⟩ gh2 noAct w' ∧ LoopLe L K.Pr gh gh2 := by
    intro k τ gh' a' w' δ _ hk hI'
    unfold procLeaf at hk
    split at hk
    · exact hk.elim
    · split at hk
      · rename_i args xs hm hxs
        split at hk
        · rename_i hc
          simp only [Bool.and_eq_true] at hc
          obtain ⟨⟨hsv, hsr⟩, hsc⟩ := hc
          obtain ⟨l, mm, hmo⟩ := match_ok hm
          obtain ⟨v, hv, hrep⟩ := results_run (P := P) hI' hxs
          let vals : List D := L.wv.map fun i => (args.getD i .nil).d Φ (K.ρ ++ δ)
          have hout : fnD K.ρ = .i 0 :: (vals ++ xs.map (X.d Φ (K.ρ ++ δ))) := by
            have h1 : (X.cons (.n 0) (consX (L.wv.map (fun i => args.getD i .nil) ++ xs))).ds Φ (K.ρ ++ δ) = fnD K.ρ := hk
            have h2 := ds_consX (K := { K0 with ρ := K.ρ ++ δ }) (L.wv.map (fun i => args.getD i .nil) ++ xs)
            rw [← h1]
            show X.d Φ (K.ρ ++ δ) (.n 0) :: (consX _).ds Φ (K.ρ ++ δ) = _
            have h3 : (consX (L.wv.map (fun i => args.getD i .nil) ++ xs)).ds Φ (K.ρ ++ δ) = _ := h2
            rw [h3, List.map_append, List.map_map]
            rfl
          have hlen' : args.length = m := hmo.len
          have htl : (K.ρ.take m).length = m := by rw [List.length_take, hlen]; omega
          have hρ2 : args.map (X.d Φ (K.ρ ++ δ)) = setVars (K.ρ.take m) L.wv vals := by
            apply List.ext_getElem
            · rw [setVars_length, List.length_map, hlen', htl]
            · intro i h1 h2
              have hi : i < (K.ρ.take m).length := by rw [setVars_length] at h2; exact h2
              have hi' : i < args.length := by simpa using h1
              have g2 : (setVars (K.ρ.take m) L.wv vals).getD i default = (setVars (K.ρ.take m) L.wv vals)[i] := by simp [List.getD, h2]
              rw [← g2, setVars_get _ L.wv vals hi, List.getElem_map]
              have hai : args.getD i .nil = args[i] := by simp [List.getD, hi']
              cases hp : posIn i L.wv with
              | some j =>
                have hj := posIn_get hp
                simp only [vals, List.getD, List.getElem?_map, hj, Option.map_some, Option.getD_some]
                simp [hi']
              | none =>
                have hn := posIn_none hp
                rcases sameVars_get hsv i hi' with h3 | h3
                · rw [Nat.zero_add, hn] at h3; cases h3
                · rw [Nat.zero_add, hai] at h3
                  rw [h3]
                  rw [htl] at hi
                  have hil : i < K.ρ.length := by rw [hlen]; omega
                  simp only [X.d, List.getD, List.getElem?_take, if_pos hi]
                  rw [List.getElem?_append_left hil]
          have hIf : Inv { ({ K0 with ρ := K.ρ ++ δ } : Ctx) with wok := K.wok, a0 := noAct } ⟨[], τ.res⟩ gh' noAct w' := hI'.frame rfl rfl (by simp) (fun n _ => rfl)
          have hI3 : Inv { K0 with ρ := setVars (K.ρ.take m) L.wv vals, gh0 := gh'.cut L.head.res, a0 := noAct } ⟨[], L.head.res⟩ (gh'.cut L.head.res) noAct w' :=
            match_inv hIf hm rfl hρ2.symm rfl (fun _ _ => rfl) hI'.os hI'.tape hI'.output hI'.grow hI'.pr hI'.prlt fun r x b hl' hx hon hlive => (hI'.own r x b hx hon hlive).1
          have hI4 := hI3.switch hplr K.Φ
          refine ⟨hI'.defers, v, hv, v, vals, _, gh'.cut L.head.res, _, hout, by simp [vals], rfl, hrep, hI4, fun r b hb => ?_, hI'.le0.F, fun b hb => hI'.Fpr b hb, fun r g e cts i vv z hx hn => ?_⟩
          · obtain ⟨x, hx, _⟩ := hI0.beta r b hb
            simp only [Gh.cut, listed_of hx, if_true]
            exact hI'.le0.β r b hb
          · have hx' : L.head.res[r]? = some (some ⟨g, .row e cts (.var i) vv z⟩) := hx
            rcases sameRows_get hsr r g e cts i vv z hx' with h3 | ⟨g', e', c', x', z', h3⟩
            · rw [hn] at h3; cases h3
            · rw [Nat.zero_add] at h3
              obtain ⟨y, l', h4, h5, h6, h7, _⟩ := (matchRess_get hmo.ress).2 r _ hx'
              have h4' : τ.res[r]? = some (some y) := h4
              have hy : y = ⟨g', .row e' c' x' vv z'⟩ := by simp only [List.getD, h4'] at h3; simpa using h3
              subst hy
              have ok2 := hI'.res r _ h4' (isTt_sound h6)
              have ok1 := hI0.res r _ hx (isTt_sound h5)
              exact hI'.le0.rv r (by rw [ok1.1]; exact ok1.2.1) (by rw [ok2.1, ok1.1])
        · exact hk.elim
      · exact hk.elim
  refine ex_ok (K := K0) hmx hM c hl rfl hwok hlen.symm hI0 (OT.ok_vt ht) fun k τ gh' a' w' δ hk hI' => ?_
  have := hleaf k τ gh' a' w' δ (.inr trivial) hk hI'
  cases k with
  | normal => exact this
  | ret => exact this
  | exit id => exact hk.elim

theorem proc_meets {Φ : FuncId → List D → List D} {lt : Nat → Option LoopSig} {pre : FuncId → List D → Prop} (hmx : P.follows .mixedOrders = true) (hM : ∀ f S, sg f = some S → MeetsAt P f S pre Φ) {f : FuncId} {fn : Func} {c : Code} {S : Sig} {L : LoopSig} {m : Nat}
    (hf : P.funcs[f]? = some fn) (hb : fn.body = some c) (hname : (fn.name == "runtime.NumGoroutine") = false) (hl : ∀ b ∈ Code.loops c, ∀ L, (firstRegion b).bind lt = some L → LoopMeets P Φ (pre L.key) L b) {vt : VT} (hvt : (procVT P sg lt S L m fn c).slim L.nv [] = vt)
    (hpl : L.head.plain = true) (hsl : L.head.slots.length = fn.ntmps) (hmn : m ≤ L.nv)
    {preF : List D → Prop} {fnD : List D → List D} (h : ∀ ρ, ρ.length = L.nv → preF ρ → vt.ok Φ ρ pre (fun out => out = fnD ρ)) : ProcMeets P f S L m preF fnD :=
  proc_meets0 hmx hM hf hb hname hl rfl hpl hsl hmn fun ρ h1 h2 => VT.slim_ok h1.symm (fun k hk => by cases hk) (hvt ▸ h ρ h1 h2)

theorem ProcMeets.at1 {f : FuncId} {S : Sig} {L : LoopSig} {m : Nat} {pre : FuncId → List D → Prop} {Φ : FuncId → List D → List D} (h : ProcMeets P f S L m (pre L.key) (Φ L.key)) (hp : S.pc = [(L, m)] := by rfl) (hlt : f < 20000 := by decide) : MeetsAt P f S pre Φ :=
  .inr (.inr ⟨by rw [hp]; rfl, hlt, fun p hm => by rw [hp] at hm; simp only [List.mem_singleton] at hm; subst hm; exact h⟩)
theorem MeetsAt.name {f : FuncId} {S : Sig} {pre : FuncId → List D → Prop} {Φ : FuncId → List D → List D} (h : S.w.isSome = true := by rfl) : MeetsAt P f S pre Φ := .inl h
end
end Go.RV
