/-
  RV, part 12: all operations in one; what an operation that isn't wanted leaves; of what an operation's effect depends.
-/
import Derived.Test.YtjdhicmkkmfcgaaRvProc
namespace Go.RV
open Go.RowKit

section
variable {P : Program} {K : Ctx} {σ : St} {gh : Gh} {a : Act} {w : World} {o : Oper}

theorem eff_bin (h : Inv K σ gh a w) {op : BinOp} {t t' : TypeId} {x y : Operand} (ho : o.op = .binOp op t x y t') {G : X} (hG : (G.d K.Φ K.ρ).bool = true) {eo : EO} {pre : FuncId → List D → Prop}
    (he : (effBin P op t (strip G (σ.opd x)) (strip G (σ.opd y))).run σ.res = some eo) (hn : ∀ n ∈ eo.nd, n.holds pre K.Φ K.ρ) : EffOk K σ P o a w eo := by
  have hx := strip_rel hG (h.opd x)
  have hy := strip_rel hG (h.opd y)
  generalize strip G (σ.opd x) = sx at *
  generalize strip G (σ.opd y) = sy at *
  match sx, sy with
  | .c (.x (.int k) ex), .c (.x (.int k') ey) => exact eff_bin_int h ho hx hy he hn
  | .c (.x .bool ex), .c (.x .bool ey) => exact eff_bin_bool h ho hx hy he
  | .c (.x .str ex), .c (.x .str ey) => exact eff_bin_str h ho hx hy he
  | .agg cs, .agg cs' => exact eff_bin_agg h ho hx hy he
  | .c (.x (.int _) _), .c (.x .bool _) | .c (.x (.int _) _), .c (.x .str _) | .c (.x (.int _) _), .c (.x (.sl _ _) _) | .c (.x (.int _) _), .c (.x (.pt _) _) | .c (.x (.int _) _), .c (.x .clo _) => exact (RM.run_fail he).elim
  | .c (.x .bool _), .c (.x (.int _) _) | .c (.x .bool _), .c (.x .str _) | .c (.x .bool _), .c (.x (.sl _ _) _) | .c (.x .bool _), .c (.x (.pt _) _) | .c (.x .bool _), .c (.x .clo _) => exact (RM.run_fail he).elim
  | .c (.x .str _), .c (.x (.int _) _) | .c (.x .str _), .c (.x .bool _) | .c (.x .str _), .c (.x (.sl _ _) _) | .c (.x .str _), .c (.x (.pt _) _) | .c (.x .str _), .c (.x .clo _) => exact (RM.run_fail he).elim
  | .c (.x (.sl _ _) _), _ | .c (.x (.pt _) _), _ | .c (.x .clo _), _ | .c (.ptr _ _), _ | .c (.ea ..), _ | .c (.pa ..), _ | .c (.row ..), _ | .c (.ra ..), _ | .c (.da ..), _ | .c (.fn ..), _ | .c (.cst _), _ | .c .any, _ => exact (RM.run_fail he).elim
  | .tup _, _ | .grd _ _, _ | .und, _ | .any, _ => exact (RM.run_fail he).elim
  | .c (.x (.int _) _), .agg _ | .c (.x (.int _) _), .tup _ | .c (.x (.int _) _), .grd _ _ | .c (.x (.int _) _), .und | .c (.x (.int _) _), .any => exact (RM.run_fail he).elim
  | .c (.x .bool _), .agg _ | .c (.x .bool _), .tup _ | .c (.x .bool _), .grd _ _ | .c (.x .bool _), .und | .c (.x .bool _), .any => exact (RM.run_fail he).elim
  | .c (.x .str _), .agg _ | .c (.x .str _), .tup _ | .c (.x .str _), .grd _ _ | .c (.x .str _), .und | .c (.x .str _), .any => exact (RM.run_fail he).elim
  | .agg _, .c _ | .agg _, .tup _ | .agg _, .grd _ _ | .agg _, .und | .agg _, .any => exact (RM.run_fail he).elim
  | .c (.x (.int _) _), .c (.ptr _ _) | .c (.x (.int _) _), .c (.ea ..) | .c (.x (.int _) _), .c (.pa ..) | .c (.x (.int _) _), .c (.row ..) | .c (.x (.int _) _), .c (.ra ..) | .c (.x (.int _) _), .c (.da ..) | .c (.x (.int _) _), .c (.fn ..) | .c (.x (.int _) _), .c (.cst _) | .c (.x (.int _) _), .c .any => exact (RM.run_fail he).elim
  | .c (.x .bool _), .c (.ptr _ _) | .c (.x .bool _), .c (.ea ..) | .c (.x .bool _), .c (.pa ..) | .c (.x .bool _), .c (.row ..) | .c (.x .bool _), .c (.ra ..) | .c (.x .bool _), .c (.da ..) | .c (.x .bool _), .c (.fn ..) | .c (.x .bool _), .c (.cst _) | .c (.x .bool _), .c .any => exact (RM.run_fail he).elim
  | .c (.x .str _), .c (.ptr _ _) | .c (.x .str _), .c (.ea ..) | .c (.x .str _), .c (.pa ..) | .c (.x .str _), .c (.row ..) | .c (.x .str _), .c (.ra ..) | .c (.x .str _), .c (.da ..) | .c (.x .str _), .c (.fn ..) | .c (.x .str _), .c (.cst _) | .c (.x .str _), .c .any => exact (RM.run_fail he).elim

variable {sg : FuncId → Option Sig}

theorem eff_ok (h : Inv K σ gh a w) {G : X} (hG : (G.d K.Φ K.ρ).bool = true) {id : Nat} (hid : makes o.op = true → σ.res[id]? = some none) {eo : EO} {pre : FuncId → List D → Prop}
    (hM : ∀ f S, sg f = some S → MeetsAt P f S pre K.Φ) (he : (eff P sg G id (fun x => strip G (σ.opd x)) o.op).run σ.res = some eo) (hn : ∀ n ∈ eo.nd, n.holds pre K.Φ K.ρ) : EffOk K σ P o a w eo := by
  unfold eff at he
  split at he
  · exact eff_move h (.inl (by assumption)) hG he
  · exact eff_move h (.inr (by assumption)) hG he
  · exact eff_pick h (by assumption) hG he
  · rename_i e ho
    split at he
    · have := RM.run_done he; subst this
      exact eff_alloc h ho hG (hid (by rw [ho]; rfl)) (by assumption)
    · exact (RM.run_fail he).elim
  · rename_i e x ho
    split at he
    · split at he
      · have := RM.run_done he; subst this
        exact eff_box h ho hG (hid (by rw [ho]; rfl)) (by assumption) (by assumption)
      · exact (RM.run_fail he).elim
    · exact (RM.run_fail he).elim
  · exact eff_build h (by assumption) hG he
  · rename_i t n ps ho
    exact eff_buildSlice h ho hG (hid (by rw [ho]; rfl)) he
  · exact eff_load h (by assumption) hG he
  · exact eff_store h (by assumption) hG he
  · exact eff_nilCheck h (by assumption) hG he
  · exact eff_bin h (by assumption) hG he hn
  · exact eff_un h (by assumption) hG he
  · exact eff_convertB h (by assumption) hG he
  · exact eff_fieldAddr h (by assumption) hG he
  · exact eff_field h (by assumption) hG he
  · exact eff_indexAddr h (by assumption) hG he hn
  · exact eff_index h (by assumption) hG he hn
  · exact eff_extract h (by assumption) hG he
  · rename_i t l c ho
    exact eff_makeSlice h ho hG (hid (by rw [ho]; rfl)) he hn
  · exact eff_slice h (by assumption) hG he hn
  · exact eff_makeFunc h (by assumption) hG he
  · rename_i c ho
    split at he
    · split at he
      · exact eff_len h ho (by assumption) (by assumption) (by assumption) hG he
      · exact (RM.run_fail he).elim
    · split at he
      · split at he
        · exact eff_minmax h ho (mx := false) (by assumption) hG (by assumption) (by assumption) he
        · exact (RM.run_fail he).elim
      · exact (RM.run_fail he).elim
    · split at he
      · split at he
        · exact eff_minmax h ho (mx := true) (by assumption) hG (by assumption) (by assumption) he
        · exact (RM.run_fail he).elim
      · exact (RM.run_fail he).elim
    · rename_i hc
      split at he
      · rename_i s x t t' hx ht
        split at he
        · rename_i htt
          simp only [beq_iff_eq] at htt
          subst htt
          have hmk : makes o.op = true := by
            obtain ⟨callee, args, argTypes⟩ := c
            simp only at hc
            subst hc
            rw [ho]
            rfl
          exact eff_append h ho hc hx ht hG (hid hmk) he hn
        · exact (RM.run_fail he).elim
      · exact (RM.run_fail he).elim
    · exact eff_callV h ho (by assumption) hG hM he hn
    · exact (RM.run_fail he).elim
  · exact (RM.run_fail he).elim

/-! ### operations that aren't wanted -/
def RK.frz : RK → Bool | .box _ _ z => z | .row _ _ _ _ z => z
def WrOne (K : Ctx) (rs : List (Option Res)) (p : Nat × Res) : Prop :=
  ((∀ x, rs[p.1]? = some (some x) → ¬ x.on K) ∧ ¬ p.2.on K) ∨ FreezeOf K ⟨[], rs⟩ p ∨ (rs[p.1]? = some (some p.2) ∧ p.2.k.frz = true)
def WrOff (K : Ctx) (rs : List (Option Res)) (wr : List (Nat × Res)) : Prop := ∀ p ∈ wr, WrOne K rs p

def RM.noWr : RM → Prop
  | .fail => True
  | .done eo => eo.wr = []
  | .res _ k => ∀ R, (k R).noWr

theorem RM.noWr_run {rs : List (Option Res)} {eo : EO} : ∀ {m : RM}, m.noWr → m.run rs = some eo → eo.wr = []
  | .fail, _, he => by simp [RM.run] at he
  | .done e, h, he => by simp [RM.run] at he; subst he; exact h
  | .res r k, h, he => by
    unfold RM.run at he
    split at he
    · exact RM.noWr_run (h _) he
    · cases he

theorem RM.val_noWr {v : Option SV} {nd : List Nd} : (RM.val v nd).noWr := by
  unfold RM.val; split <;> simp [RM.noWr]

theorem off_of_noWr {rs : List (Option Res)} {eo : EO} {m : RM} (h : m.noWr) (he : m.run rs = some eo) : WrOff K rs eo.wr := by
  rw [RM.noWr_run h he]; intro p hp; cases hp

theorem effLoad_noWr {G : X} {t : TypeId} {s : SV} : (effLoad P G t s).noWr := by
  unfold effLoad
  repeat' split
  all_goals first | trivial | exact RM.val_noWr | (intro R; dsimp only; repeat' split) <;> first | trivial | exact RM.val_noWr | rfl
theorem effNilCheck_noWr {s : SV} : (effNilCheck s).noWr := by
  unfold effNilCheck; repeat' split
  all_goals first | trivial | rfl
theorem effBin_noWr {op : BinOp} {t : TypeId} {x y : SV} : (effBin P op t x y).noWr := by
  unfold effBin; repeat' split
  all_goals first | trivial | rfl
theorem effUn_noWr {op : UnOp} {x : SV} : (effUn op x).noWr := by
  unfold effUn; repeat' split
  all_goals first | trivial | rfl
theorem effConvert_noWr {s d : TypeId} {x : SV} : (effConvert P s d x).noWr := by
  unfold effConvert; repeat' split
  all_goals first | trivial | rfl
theorem effConvertB_noWr {s d : TypeId} {x : SV} : (effConvertB P s d x).noWr := by
  unfold effConvertB; repeat' split
  all_goals first | exact effConvert_noWr | trivial | rfl
theorem effFieldAddr_noWr {s : TypeId} {x : SV} {f : Nat} : (effFieldAddr P s x f).noWr := by
  unfold effFieldAddr; repeat' split
  all_goals first | trivial | exact RM.val_noWr
theorem effField_noWr {s : TypeId} {x : SV} {f : Nat} : (effField P s x f).noWr := by
  unfold effField; repeat' split
  all_goals first | trivial | exact RM.val_noWr
theorem effIndexAddr_noWr {G : X} {t : TypeId} {x i : SV} : (effIndexAddr P G t x i).noWr := by
  unfold effIndexAddr
  repeat' split
  all_goals first | trivial | rfl | (intro R; dsimp only; repeat' split) <;> first | trivial | rfl
theorem effIndex_noWr {t : TypeId} {x i : SV} : (effIndex P t x i).noWr := by
  unfold effIndex; repeat' split
  all_goals first | trivial | rfl | exact RM.val_noWr
theorem effExtract_noWr {x : SV} {i : Nat} : (effExtract x i).noWr := by
  unfold effExtract; repeat' split
  all_goals first | trivial | exact RM.val_noWr
theorem effBuild_noWr {t : TypeId} {ps : List (Nat × SV)} : (effBuild P t ps).noWr := by
  unfold effBuild; repeat' split
  all_goals first | trivial | rfl
theorem effPick_noWr {G : X} {c x y : SV} : (effPick G c x y).noWr := by
  unfold effPick; repeat' split
  all_goals first | trivial | rfl
theorem effLen_noWr {G : X} {t : TypeId} {x : SV} : (effLen P G t x).noWr := by
  unfold effLen; repeat' split
  all_goals first | trivial | rfl | (intro R; dsimp only; repeat' split) <;> first | trivial | rfl

theorem effMakeFunc_noWr {fn : Fn} {x y : List SV} : (effMakeFunc fn x y).noWr := by
  unfold effMakeFunc; repeat' split
  all_goals first | trivial | rfl

theorem WrOff.append {rs : List (Option Res)} {wr wr' : List (Nat × Res)} (h : WrOff K rs wr) (h' : WrOff K rs wr') : WrOff K rs (wr ++ wr') := fun p hp => (List.mem_append.1 hp).elim (h p) (h' p)
theorem WrOff.nil {rs : List (Option Res)} : WrOff K rs [] := fun p hp => by cases hp
theorem WrOff.one {rs : List (Option Res)} {id : Nat} (hid : rs[id]? = some none) {G : X} (hG : ¬ (G.d K.Φ K.ρ).bool = true) {k : RK} : WrOff K rs [(id, ⟨G, k⟩)] := fun p hp => by
  simp only [List.mem_singleton] at hp; subst hp; exact .inl ⟨fun x hx => (by rw [hid] at hx; cases hx), hG⟩

theorem freeze_off {r : Nat} {R : Res} (hR : σ.has r R) {k : RK} (hk : (∃ ety cells, R.k = .box ety cells false ∧ (⟨R.g, k⟩ : Res) = ⟨R.g, .box ety cells true⟩) ∨ (∃ ety cts content ver, R.k = .row ety cts content ver false ∧ (⟨R.g, k⟩ : Res) = ⟨R.g, .row ety cts content ver true⟩)) :
    WrOff K σ.res [(r, ⟨R.g, k⟩)] := by
  intro p hp
  simp only [List.mem_singleton] at hp
  subst hp
  by_cases hon : R.on K
  · exact .inr (.inl ⟨R, hR, hon, hk⟩)
  · refine .inl ⟨fun x hx => ?_, hon⟩
    unfold St.has at hR
    rw [hR] at hx
    simp only [Option.some.injEq] at hx
    subst hx
    exact hon

theorem cellArg0_off {G : X} (_hG : ¬ (G.d K.Φ K.ρ).bool = true) {fz : Bool} {ct : CT} {s : SC} {k : X → List (Nat × Res) → RM} {eo : EO} (he : (cellArg0 G fz ct s k).run σ.res = some eo) :
    ∃ e wr, (k e wr).run σ.res = some eo ∧ WrOff K σ.res wr := by
  unfold cellArg0 at he
  split at he
  · obtain ⟨R, hR, he⟩ := RM.run_res he
    split at he
    · split at he
      · refine ⟨_, _, he, ?_⟩
        split
        · rename_i hz
          simp only [Bool.and_eq_true, Bool.not_eq_true'] at hz
          exact freeze_off hR (.inr ⟨_, _, _, _, by rw [← hz.2]; assumption, rfl⟩)
        · exact WrOff.nil
      · exact (RM.run_fail he).elim
    · exact (RM.run_fail he).elim
  · exact ⟨_, _, he, WrOff.nil⟩
  · obtain ⟨R, hR, he⟩ := RM.run_res he
    split at he
    · split at he
      · split at he
        · refine ⟨_, _, he, ?_⟩
          split
          · rename_i hz
            simp only [Bool.and_eq_true, Bool.not_eq_true'] at hz
            exact freeze_off hR (.inl ⟨_, _, by rw [← hz.2]; assumption, rfl⟩)
          · exact WrOff.nil
        · exact (RM.run_fail he).elim
      · exact (RM.run_fail he).elim
    · exact (RM.run_fail he).elim
  · split at he
    · exact ⟨_, _, he, WrOff.nil⟩
    · exact (RM.run_fail he).elim
  · exact (RM.run_fail he).elim

theorem capsArg_off {G : X} (hG : ¬ (G.d K.Φ K.ρ).bool = true) {fz : Bool} : ∀ {caps : List (Nat × Nat)} {k : List CT → List X → List (Nat × Res) → RM} {eo : EO}, (capsArg G fz caps k).run σ.res = some eo →
    ∃ ctss es wr, (k ctss es wr).run σ.res = some eo ∧ WrOff K σ.res wr
  | [], k, eo, he => ⟨[], [], [], he, WrOff.nil⟩
  | c :: caps, k, eo, he => by
    unfold capsArg at he
    obtain ⟨R, hR, he⟩ := RM.run_res he
    split at he
    · split at he
      · obtain ⟨e, wr, he, h1⟩ := cellArg0_off hG he
        obtain ⟨ctss, es, wr', he, h2⟩ := capsArg_off hG he
        exact ⟨_, _, _, he, h1.append h2⟩
      · exact (RM.run_fail he).elim
    · exact (RM.run_fail he).elim

theorem cellArg_off {G : X} (hG : ¬ (G.d K.Φ K.ρ).bool = true) {fz : Bool} {ct : CT} {s : SC} {k : X → List (Nat × Res) → RM} {eo : EO} (he : (cellArg G fz ct s k).run σ.res = some eo) :
    ∃ e wr, (k e wr).run σ.res = some eo ∧ WrOff K σ.res wr := by
  unfold cellArg at he
  split at he
  · obtain ⟨ctss, es, wr, he, h1⟩ := capsArg_off hG he
    exact ⟨_, _, he, h1⟩
  · exact cellArg0_off hG he

theorem cellsArg_off {G : X} (hG : ¬ (G.d K.Φ K.ρ).bool = true) {fz : Bool} : ∀ {cts : List CT} {cs : List SC} {k : List X → List (Nat × Res) → RM} {eo : EO}, (cellsArg G fz cts cs k).run σ.res = some eo →
    ∃ es wr, (k es wr).run σ.res = some eo ∧ WrOff K σ.res wr
  | [], [], k, eo, he => ⟨[], [], he, WrOff.nil⟩
  | ct :: cts, c :: cs, k, eo, he => by
    obtain ⟨e, wr, he, h1⟩ := cellArg_off hG he
    obtain ⟨es, wr', he, h2⟩ := cellsArg_off hG he
    exact ⟨_, _, he, h1.append h2⟩
  | [], _ :: _, k, eo, he => by simp [cellsArg, RM.run] at he
  | _ :: _, [], k, eo, he => by simp [cellsArg, RM.run] at he

theorem argsX_off {G : X} (hG : ¬ (G.d K.Φ K.ρ).bool = true) {fz : Bool} : ∀ {ps : List (Bool × List CT)} {vs : List SV} {k : List X → List (Nat × Res) → RM} {eo : EO}, (argsX G fz ps vs k).run σ.res = some eo →
    ∃ es wr, (k es wr).run σ.res = some eo ∧ WrOff K σ.res wr
  | [], [], k, eo, he => ⟨[], [], he, WrOff.nil⟩
  | p :: ps, v :: vs, k, eo, he => by
    unfold argsX at he
    split at he
    · obtain ⟨e, wr, he, h1⟩ := cellsArg_off hG he
      obtain ⟨es, wr', he, h2⟩ := argsX_off hG he
      exact ⟨_, _, he, h1.append h2⟩
    · exact (RM.run_fail he).elim
  | [], _ :: _, k, eo, he => by simp [argsX, RM.run] at he
  | _ :: _, [], k, eo, he => by simp [argsX, RM.run] at he

theorem rowsArg_off {G : X} (hG : ¬ (G.d K.Φ K.ρ).bool = true) {cts : List CT} : ∀ {ps : List (Nat × SV)} {k : X → List (Nat × Res) → RM} {eo : EO}, (rowsArg G cts ps k).run σ.res = some eo →
    ∃ e wr, (k e wr).run σ.res = some eo ∧ WrOff K σ.res wr
  | [], k, eo, he => ⟨_, _, he, WrOff.nil⟩
  | p :: ps, k, eo, he => by
    unfold rowsArg at he
    split at he
    · obtain ⟨e, wr, he, h1⟩ := cellsArg_off hG he
      obtain ⟨es, wr', he, h2⟩ := rowsArg_off hG he
      exact ⟨_, _, he, h1.append h2⟩
    · exact (RM.run_fail he).elim

theorem srcArg_off {G : X} {e : TypeId} {cts : List CT} {s : SC} {k : X → RM} {eo : EO} (he : (srcArg G e cts s k).run σ.res = some eo) : ∃ cx, (k cx).run σ.res = some eo := by
  unfold srcArg at he
  split at he
  · obtain ⟨R, hR, he⟩ := RM.run_res he
    split at he
    · split at he
      · exact ⟨_, he⟩
      · exact (RM.run_fail he).elim
    · exact (RM.run_fail he).elim
  · exact ⟨_, he⟩
  · split at he
    · exact ⟨_, he⟩
    · exact (RM.run_fail he).elim
  · exact (RM.run_fail he).elim

theorem effCall_off {G : X} (hG : ¬ (G.d K.Φ K.ρ).bool = true) {f : FuncId} {vs : List SV} {eo : EO} (he : (effCall sg G f vs).run σ.res = some eo) : WrOff K σ.res eo.wr := by
  unfold effCall at he
  split at he
  · split at he
    · exact (RM.run_fail he).elim
    · split at he
      · unfold effCall0 at he
        obtain ⟨es, wr, he, h1⟩ := argsX_off hG he
        split at he
        · have := RM.run_done he; subst this; exact h1
        · exact (RM.run_fail he).elim
      · split at he
        · unfold effProc at he
          split at he
          · exact (RM.run_fail he).elim
          · rename_i hc
            simp only [Bool.not_eq_true, Bool.not_eq_false', Bool.and_eq_true] at hc
            exact absurd (isTt_sound hc.1) hG
        · exact (RM.run_fail he).elim
  · exact (RM.run_fail he).elim

theorem eff_off {G : X} (hG : ¬ (G.d K.Φ K.ρ).bool = true) {id : Nat} {p : Op} (hid : makes p = true → σ.res[id]? = some none) {eo : EO} {arg : Operand → SV} (he : (eff P sg G id arg p).run σ.res = some eo) : WrOff K σ.res eo.wr := by
  have ntt : isTt G = true → False := fun h => hG (isTt_sound h)
  unfold eff at he
  split at he
  · have := RM.run_done he; subst this; exact WrOff.nil
  · have := RM.run_done he; subst this; exact WrOff.nil
  · exact off_of_noWr effPick_noWr he
  · split at he
    · have := RM.run_done he; subst this; exact WrOff.one (hid rfl) hG
    · exact (RM.run_fail he).elim
  · split at he
    · split at he
      · have := RM.run_done he; subst this; exact WrOff.one (hid rfl) hG
      · exact (RM.run_fail he).elim
    · exact (RM.run_fail he).elim
  · exact off_of_noWr effBuild_noWr he
  · unfold effBuildSlice at he
    split at he
    · split at he
      · split at he
        · obtain ⟨e, wr, he, h1⟩ := rowsArg_off hG he
          have := RM.run_done he; subst this
          exact h1.append (WrOff.one (hid rfl) hG)
        · exact (RM.run_fail he).elim
      · exact (RM.run_fail he).elim
    · exact (RM.run_fail he).elim
  · exact off_of_noWr effLoad_noWr he
  · unfold effStore at he
    split at he
    · obtain ⟨R, hR, he⟩ := RM.run_res he
      split at he
      · split at he
        · rename_i hc
          simp only [Bool.and_eq_true] at hc
          exact (ntt hc.1.1.1.1.1).elim
        · exact (RM.run_fail he).elim
      · exact (RM.run_fail he).elim
    · obtain ⟨R, hR, he⟩ := RM.run_res he
      split at he
      · split at he
        · split at he
          · rename_i hc
            simp only [Bool.and_eq_true] at hc
            exact (ntt hc.1.1.1.1.1.1).elim
          · exact (RM.run_fail he).elim
        · exact (RM.run_fail he).elim
      · exact (RM.run_fail he).elim
    · exact (RM.run_fail he).elim
  · exact off_of_noWr effNilCheck_noWr he
  · exact off_of_noWr effBin_noWr he
  · exact off_of_noWr effUn_noWr he
  · exact off_of_noWr effConvertB_noWr he
  · exact off_of_noWr effFieldAddr_noWr he
  · exact off_of_noWr effField_noWr he
  · exact off_of_noWr effIndexAddr_noWr he
  · exact off_of_noWr effIndex_noWr he
  · exact off_of_noWr effExtract_noWr he
  · unfold effMakeSlice at he
    split at he
    · split at he
      · split at he
        · split at he
          · have := RM.run_done he; subst this; exact WrOff.one (hid rfl) hG
          · exact (RM.run_fail he).elim
        · exact (RM.run_fail he).elim
      · exact (RM.run_fail he).elim
    · exact (RM.run_fail he).elim
  · unfold effSlice at he
    split at he
    · split at he
      · split at he
        · split at he
          · have := RM.run_done he; subst this; exact WrOff.nil
          · exact (RM.run_fail he).elim
        · exact (RM.run_fail he).elim
      · obtain ⟨R, hR, he⟩ := RM.run_res he
        split at he
        · split at he
          · split at he
            · rename_i hc
              simp only [Bool.and_eq_true] at hc
              exact (ntt hc.1.1.1.1).elim
            · exact (RM.run_fail he).elim
          · exact (RM.run_fail he).elim
        · exact (RM.run_fail he).elim
      · exact (RM.run_fail he).elim
    · exact (RM.run_fail he).elim
  · exact off_of_noWr effMakeFunc_noWr he
  · rename_i c
    split at he
    · split at he
      · exact off_of_noWr effLen_noWr he
      · exact (RM.run_fail he).elim
    · split at he
      · split at he
        · exact off_of_noWr RM.val_noWr he
        · exact (RM.run_fail he).elim
      · exact (RM.run_fail he).elim
    · split at he
      · split at he
        · exact off_of_noWr RM.val_noWr he
        · exact (RM.run_fail he).elim
      · exact (RM.run_fail he).elim
    · rename_i hc
      split at he
      · split at he
        · have hmk : makes (.call c) = true := by
            obtain ⟨callee, args, argTypes⟩ := c
            simp only at hc
            subst hc
            rfl
          unfold effAppend at he
          split at he
          · split at he
            · split at he
              · exact (RM.run_fail he).elim
              · split at he
                · obtain ⟨cx, he⟩ := srcArg_off he
                  split at he
                  · have := RM.run_done he; subst this; exact WrOff.one (hid hmk) hG
                  · obtain ⟨R, hR, he⟩ := RM.run_res he
                    split at he
                    · split at he
                      · rename_i hc
                        simp only [Bool.and_eq_true] at hc
                        exact (ntt hc.1.1.1.1.1).elim
                      · exact (RM.run_fail he).elim
                    · exact (RM.run_fail he).elim
                  · exact (RM.run_fail he).elim
                · exact (RM.run_fail he).elim
            · exact (RM.run_fail he).elim
          · exact (RM.run_fail he).elim
        · exact (RM.run_fail he).elim
      · exact (RM.run_fail he).elim
    · unfold effCallV at he
      split at he
      · split at he
        · exact effCall_off hG he
        · exact (RM.run_fail he).elim
      · exact effCall_off hG he
      · exact (RM.run_fail he).elim
    · exact (RM.run_fail he).elim
  · exact (RM.run_fail he).elim

/-- what is off stays off -/
theorem Inv.off (h : Inv K σ gh a w) {p : Nat × Res} (hp : (∀ x, σ.res[p.1]? = some (some x) → ¬ x.on K) ∧ ¬ p.2.on K) :
    Inv K ⟨σ.slots, σ.res.set p.1 (some p.2)⟩ gh a w := by
  obtain ⟨hoff, hp2⟩ := hp
  have old : ∀ r x, (⟨σ.slots, σ.res.set p.1 (some p.2)⟩ : St).has r x → x.on K → σ.has r x := by
    intro r x hx hon
    unfold St.has at hx ⊢
    rw [List.getElem?_set] at hx
    split at hx
    · split at hx
      · simp only [Option.some.injEq] at hx
        subst hx
        exact absurd hon hp2
      · cases hx
    · exact hx
  have new : ∀ r x, σ.has r x → x.on K → (⟨σ.slots, σ.res.set p.1 (some p.2)⟩ : St).has r x := by
    intro r x hx hon
    have hne : p.1 ≠ r := by rintro rfl; exact hoff x hx hon
    unfold St.has at hx ⊢
    rw [List.getElem?_set, if_neg hne]
    exact hx
  exact ⟨h.defers, h.size, h.slot, h.kept, h.os, h.tape, h.output, h.grow, h.pr, h.prlt, h.Flt, fun r b hb => let ⟨x, hx, hon⟩ := h.beta r b hb; ⟨x, new r x hx hon, hon⟩,
    fun r hr => let ⟨x, hx, hon⟩ := h.vr0 r hr; ⟨x, new r x hx hon, hon⟩, fun r x hx hon => h.res r x (old r x hx hon) hon, fun r x b hx hon => h.own r x b (old r x hx hon) hon,
    fun r x r' x' b hx hon hx' hon' => h.inj r x r' x' b (old r x hx hon) hon (old r' x' hx' hon') hon', h.le0, h.Fpr⟩

theorem Inv.offs : ∀ {wr : List (Nat × Res)} {σ : St} {gh : Gh}, Inv K σ gh a w → WrOff K σ.res wr → ∃ gh', Inv K ⟨σ.slots, setAll σ.res wr⟩ gh' a w
  | [], σ, gh, h, _ => ⟨gh, h⟩
  | p :: wr, σ, gh, h, hw => by
    have key : ∃ gh', Inv K ⟨σ.slots, σ.res.set p.1 (some p.2)⟩ gh' a w := by
      rcases hw p (by simp) with h1 | h1 | ⟨h1, _⟩
      · exact ⟨gh, h.off h1⟩
      · obtain ⟨gh', h2, _⟩ := freeze_one h (p := p) h1
        exact ⟨gh', h2⟩
      · rw [set_same h1]; exact ⟨gh, h⟩
    obtain ⟨gh', h1⟩ := key
    refine Inv.offs (σ := ⟨σ.slots, σ.res.set p.1 (some p.2)⟩) h1 fun q hq => ?_
    have hpw := hw p (by simp)
    have hqw := hw q (by simp [hq])
    by_cases e : p.1 = q.1
    · by_cases hlt : p.1 < σ.res.length
      · have hset : (σ.res.set p.1 (some p.2))[q.1]? = some (some p.2) := by rw [← e]; exact getElem?_set_has hlt
        show WrOne K (σ.res.set p.1 (some p.2)) q
        rcases hqw with ⟨q1, q2⟩ | ⟨x, q1, q2, q3⟩ | ⟨q1, q2⟩
        · rcases hpw with ⟨p1, p2⟩ | ⟨y, p1, p2, p3⟩ | ⟨p1, p2⟩
          · exact .inl ⟨fun x hx => by rw [hset] at hx; simp only [Option.some.injEq] at hx; subst hx; exact p2, q2⟩
          · unfold St.has at p1; rw [e] at p1; exact absurd p2 (q1 y p1)
          · rw [e] at p1; exact .inl ⟨fun x hx => by rw [hset] at hx; simp only [Option.some.injEq] at hx; subst hx; exact q1 _ p1, q2⟩
        · unfold St.has at q1
          rcases hpw with ⟨p1, p2⟩ | ⟨y, p1, p2, p3⟩ | ⟨p1, p2⟩
          · rw [← e] at q1; exact absurd q2 (p1 x q1)
          · unfold St.has at p1
            have hxy : x = y := by
              simp only at p1 q1
              rw [e, q1] at p1
              simpa using p1
            subst hxy
            have hpq : p.2 = q.2 := by
             rcases q3 with ⟨e1, c1, k1, k2⟩ | ⟨e1, c1, x1, v1, k1, k2⟩ <;> rcases p3 with ⟨e2, c2, k3, k4⟩ | ⟨e2, c2, x2, v2, k3, k4⟩ <;> rw [k1] at k3 <;> cases k3 <;> rw [k2, k4]
            refine .inr (.inr ⟨by rw [hset, hpq], ?_⟩)
            rcases q3 with ⟨e1, c1, k1, k2⟩ | ⟨e1, c1, x1, v1, k1, k2⟩ <;> rw [k2] <;> rfl
          · simp only at q1
            rw [e, q1] at p1
            simp only [Option.some.injEq] at p1
            rcases q3 with ⟨e2, c2, k3, k4⟩ | ⟨e2, c2, x2, v2, k3, k4⟩ <;> rw [← p1, k3] at p2 <;> cases p2
        · rcases hpw with ⟨p1, p2⟩ | ⟨y, p1, p2, p3⟩ | ⟨p1, p2⟩
          · rw [← e] at q1
            exact .inl ⟨fun x hx => by rw [hset] at hx; simp only [Option.some.injEq] at hx; subst hx; exact p2, p1 _ q1⟩
          · unfold St.has at p1
            simp only at p1
            rw [e, q1] at p1
            simp only [Option.some.injEq] at p1
            rcases p3 with ⟨e2, c2, k3, k4⟩ | ⟨e2, c2, x2, v2, k3, k4⟩ <;> rw [p1, k3] at q2 <;> cases q2
          · rw [← e, p1] at q1
            refine .inr (.inr ⟨by rw [hset, ← q1], q2⟩)
      · have : σ.res.set p.1 (some p.2) = σ.res := List.set_eq_of_length_le (by omega)
        show WrOne K (σ.res.set p.1 (some p.2)) q
        rw [this]; exact hqw
    · show WrOne K (σ.res.set p.1 (some p.2)) q
      unfold WrOne FreezeOf St.has at hqw ⊢
      simp only [List.getElem?_set, if_neg e] at hqw ⊢
      exact hqw

/-! ### of what an operation's effect depends -/
theorem RM.run_congr {rs rs' : List (Option Res)} : ∀ {m : RM}, (∀ r ∈ m.reads rs, rs.getD r none = rs'.getD r none) → m.run rs' = m.run rs ∧ m.reads rs' = m.reads rs
  | .fail, _ => ⟨rfl, rfl⟩
  | .done _, _ => ⟨rfl, rfl⟩
  | .res r k, h => by
    have h0 := h r (by simp [RM.reads])
    unfold RM.run RM.reads
    rw [← h0]
    cases hr : rs.getD r none with
    | none => exact ⟨rfl, rfl⟩
    | some R =>
      have := RM.run_congr (rs := rs) (rs' := rs') (m := k R) fun q hq => h q (by unfold RM.reads; rw [hr]; simp [hq])
      exact ⟨this.1, by simp only [this.2]⟩

theorem eff_congr {G : X} {id : Nat} {arg arg' : Operand → SV} {p : Op} (h : ∀ x ∈ p.operands.toList, arg x = arg' x) : eff P sg G id arg p = eff P sg G id arg' p := by
  cases p with
  | build t ps =>
    have : (ps.toList.map fun p => (p.1, arg p.2)) = ps.toList.map fun p => (p.1, arg' p.2) := List.map_congr_left fun q hq => by rw [h q.2 (by simp [Op.operands]; exact ⟨q.1, by simpa using hq⟩)]
    simp only [eff, this]
  | buildSlice t n ps =>
    have : (ps.toList.map fun p => (p.1, arg p.2)) = ps.toList.map fun p => (p.1, arg' p.2) := List.map_congr_left fun q hq => by rw [h q.2 (by simp [Op.operands]; exact ⟨q.1, by simpa using hq⟩)]
    simp only [eff, this]
  | slice t x lo hi mx =>
    have h0 := h x (by simp [Op.operands])
    have h1 : lo.map arg = lo.map arg' := by cases lo with | none => rfl | some y => simp [h y (by simp [Op.operands])]
    have h2 : hi.map arg = hi.map arg' := by cases hi with | none => rfl | some y => simp [h y (by simp [Op.operands])]
    have h3 : mx.map arg = mx.map arg' := by cases mx with | none => rfl | some y => simp [h y (by simp [Op.operands])]
    simp only [eff, h0, h1, h2, h3]
  | call c =>
    have hm : c.args.toList.map arg = c.args.toList.map arg' := List.map_congr_left fun q hq => h q (by simp only [Op.operands, Call.operands, Array.toList_append, List.mem_append]; exact .inr hq)
    have hq : ∀ q ∈ c.args.toList, arg q = arg' q := fun q hq => h q (by simp only [Op.operands, Call.operands, Array.toList_append, List.mem_append]; exact .inr hq)
    unfold eff
    dsimp only
    split
    · split
      · rename_i x t hx ht
        rw [hq x (by rw [hx]; simp)]
      · rfl
    · rw [hm]
    · rw [hm]
    · split
      · rename_i s x t t' hx ht
        rw [hq x (by rw [hx]; simp), hq s (by rw [hx]; simp)]
      · rfl
    · rename_i x hx
      have hc : arg x = arg' x := h x (by simp only [Op.operands, Call.operands, hx, Array.toList_append, List.mem_append]; exact .inl (by simp))
      rw [hm, hc]
    · rfl
  | makeFunc fn first captured =>
    have h1 : first.toList.map arg = first.toList.map arg' := List.map_congr_left fun q hq => h q (by simp only [Op.operands, Array.toList_append, List.mem_append]; exact .inl hq)
    have h2 : captured.toList.map arg = captured.toList.map arg' := List.map_congr_left fun q hq => h q (by simp only [Op.operands, Array.toList_append, List.mem_append]; exact .inr hq)
    simp only [eff, h1, h2]
  | pick c x y => simp only [eff, h c (by simp [Op.operands]), h x (by simp [Op.operands]), h y (by simp [Op.operands])]
  | move x => simp only [eff, h x (by simp [Op.operands])]
  | assign x => simp only [eff, h x (by simp [Op.operands])]
  | box e x => simp only [eff, h x (by simp [Op.operands])]
  | load e x => simp only [eff, h x (by simp [Op.operands])]
  | nilCheck x => simp only [eff, h x (by simp [Op.operands])]
  | unOp o t x => simp only [eff, h x (by simp [Op.operands])]
  | convert s d x => simp only [eff, h x (by simp [Op.operands])]
  | fieldAddr s x f => simp only [eff, h x (by simp [Op.operands])]
  | field s x f => simp only [eff, h x (by simp [Op.operands])]
  | extract x i => simp only [eff, h x (by simp [Op.operands])]
  | store t x y => simp only [eff, h x (by simp [Op.operands]), h y (by simp [Op.operands])]
  | binOp o t x y t' => simp only [eff, h x (by simp [Op.operands]), h y (by simp [Op.operands])]
  | makeSlice t x y => simp only [eff, h x (by simp [Op.operands]), h y (by simp [Op.operands])]
  | indexAddr t x y => simp only [eff, h x (by simp [Op.operands]), h y (by simp [Op.operands])]
  | index t x y => simp only [eff, h x (by simp [Op.operands]), h y (by simp [Op.operands])]
  | _ => rfl

end
end Go.RV
