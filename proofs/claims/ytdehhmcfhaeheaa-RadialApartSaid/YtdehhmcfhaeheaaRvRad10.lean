/-
  Radial drawings: angles, and the reference's.
-/
import Derived.Test.YtdehhmcfhaeheaaRvRad9
namespace Go.Proofs.Ytdehhmcfhaeheaa.rv
open Go.RV

theorem m9 : Meets Try.prog 9 S9 (R 9) (F 9) := by
  refine meets_of_vt (pre := R) (Φ := F) mixed (sgAt_all (P := Try.prog) (pre := R) (Φ := F) (l := sg9) (List.forall_mem_cons.2 ⟨Meets.at (pre := R) (Φ := F) m22, List.forall_mem_cons.2 ⟨Meets.at (pre := R) (Φ := F) m12, List.forall_mem_cons.2 ⟨mp9_23, List.forall_mem_cons.2 ⟨MeetsAt.name, List.forall_mem_cons.2 ⟨MeetsAt.name, (fun _ h => nomatch h)⟩⟩⟩⟩⟩)) Try.func9 b9 n9 (loops_n 2 k9 fun k hk => match k, hk with | 0, _ => loop_this lf9_0 loopM9_0 | 1, _ => loop_this lf9_1 loopM9_1) e9 fun ds _ hq => ?_
  obtain ⟨p, rfl, hm⟩ : lPre ds := hq
  have hp : lPre [.l (p.map encI)] := ⟨p, rfl, hm⟩
  simp only [vt9, VT.ok, Nd.holds, X.outs, X.ds, X.d, Op1.ev, Op2.ev, takeD_zero, takeD_cons, List.cons_append, List.nil_append, List.getD_cons_zero, List.getD_cons_succ, D.int_i, D.bool_b, D.lst_l, Int.toNat_natCast, List.length_map, F22, R22, F12, R12, F9, F10900, R10900, F10901, R10901, okD, dp_enc, leavesD, angD]
  refine ⟨fun _ => hp, ?_⟩
  cases hk : okF p
  · rfl
  · have hf := okF_iff.1 hk
    have h64 := hf.1
    have hz : List.replicate p.length [D.i 0, D.i 0, D.i 0, D.i 0] = (rowF (wrow p 0) p.length).map encQ := by
      rw [show rowF (wrow p 0) p.length = rowF (fun _ => q0) p.length from rowF_congr fun v hv => by rw [wrow, if_neg (by omega)]; rfl, ← rowF_rep encQ]; rfl
    have h1 : pr9a [.l ((Lrow p).map encI), .l (p.map encI), .i (p.length : Int), .i 0, .i 0, .i 360, .i 0, .i 0] := ⟨p, 0, 0, 360, 0, rfl, hf, by omega⟩
    have h2 : pr9b [.l ((Lrow p).map encI), .l (p.map encI), .i (p.length : Int), .i 0, .i 0, .i 360, .i (S p (-1)), .i 0, .l ((rowF (wrow p 0) p.length).map encQ), .l []] := ⟨p, 0, rfl, hf, by omega⟩
    simp (disch := omega) only [takeD_zero, takeD_cons, List.cons_append, List.nil_append, List.getD_cons_zero, List.getD_cons_succ, List.length_map, Bool.false_eq_true, implies_true, true_and, and_true, ↓reduceIte, dle_t, Bool.not_true, hz, lp9a, lp9b, dp_enc]
    exact ⟨fun _ => hp, fun _ => h1, fun _ => h2⟩
end Go.Proofs.Ytdehhmcfhaeheaa.rv
