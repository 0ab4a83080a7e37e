/-
  Radial drawings: the loops of the angles.
-/
import Derived.Test.YtdehhmcfhaeheaaRvRad7
namespace Go.Proofs.Ytdehhmcfhaeheaa.rv
open Go.RV

theorem B_succ (p : List Int) (w : Int) (i : Nat) : B p w (i + 1) = B p w i + ch p (L p) w i := rfl
theorem B_root {p : List Int} (hp : Forest p) {i : Nat} (hi : i ≤ p.length) : 0 ≤ B p (-1) i ∧ B p (-1) i ≤ 64 := by
  have h1 := S_roots hp
  have h2 := hp.1
  have h3 := sumTo_mono (ch_nonneg p (-1)) hi
  exact ⟨sumTo_nonneg fun j _ => ch_nonneg p _ j, by unfold B; unfold S at h1; omega⟩
theorem loopM9_0 : LoopMeets Try.prog F (R L9_0.key) L9_0 lb9_0 := by
  refine loop_meets (pre := R) mixed (sgAt_all (P := Try.prog) (pre := R) (Φ := F) (l := sg9) (List.forall_mem_cons.2 ⟨Meets.at (pre := R) (Φ := F) m22, List.forall_mem_cons.2 ⟨Meets.at (pre := R) (Φ := F) m12, List.forall_mem_cons.2 ⟨mp9_23, List.forall_mem_cons.2 ⟨MeetsAt.name, List.forall_mem_cons.2 ⟨MeetsAt.name, (fun _ h => nomatch h)⟩⟩⟩⟩⟩)) (loops_n 0 lk9_0 fun k hk => by omega) L9_0 (fun ρ => ((ρ.getD 2 default).int - (ρ.getD 3 default).int).toNat) le9_0 fun ρ _ hq => ?_
  obtain ⟨p, i, a, b, c, rfl, hp, hi⟩ : pr9a ρ := hq
  have h64 := hp.1
  by_cases hlt : i < p.length
  · have hb := hp.2 i hlt
    have hB := B_root hp hi
    have hLk := L_le hp _ i (Nat.le_refl _) hlt
    have hLp := L_pos p i
    have hlen : (Lrow p).length = p.length := rowF_len
    have hLi : (Lrow p).getD i 0 = L p i := rowF_get 0 hlt
    have hpi : (p.map encI).getD i [] = encI (par p i) := parI hlt
    have hN : ∀ x : Int, x = B p (-1) (i + 1) → RoundOk F (R L9_0.key) (fun ρ => ((ρ.getD 2 default).int - (ρ.getD 3 default).int).toNat) L9_0 [.l ((Lrow p).map encI), .l (p.map encI), .i (p.length : Int), .i (i : Int), .i a, .i b, .i (B p (-1) i), .i c] [.i (-1), .i ((i + 1 : Nat) : Int), .i x] := by
      rintro x rfl
      refine round_next ⟨⟨p, i + 1, a, b, c, rfl, hp, by omega⟩, ?_, rfl⟩
      show ((p.length : Int) - ((i + 1 : Nat) : Int)).toNat < ((p.length : Int) - (i : Int)).toNat
      omega
    by_cases h0 : par p i < 0
    · have e : par p i = -1 := by omega
      simp (disch := omega) only [rt9_0, VT.ok, Nd.holds, X.ds, X.d, Op1.ev, Op2.ev, List.getD_cons_zero, List.getD_cons_succ, D.int_i, D.bool_b, D.lst_l, Int.toNat_natCast, List.length_map, implies_true, true_and, ↓reduceIte, dle_t, dlt_t, w64', hpi, rowI, encI, hlen, hLi]
      exact hN _ (by rw [B_succ, ch, if_pos e])
    · simp (disch := omega) only [rt9_0, VT.ok, Nd.holds, X.ds, X.d, Op1.ev, Op2.ev, List.getD_cons_zero, List.getD_cons_succ, D.int_i, D.bool_b, D.lst_l, Int.toNat_natCast, List.length_map, Bool.false_eq_true, implies_true, true_and, ↓reduceIte, dle_t, dlt_t, dlt_f, w64', hpi, encI]
      exact hN _ (by rw [B_succ, ch, if_neg (by omega)]; omega)
  · have hj : i = p.length := by omega
    subst hj
    simp (disch := omega) only [rt9_0, VT.ok, X.ds, X.d, Op2.ev, List.getD_cons_zero, List.getD_cons_succ, D.int_i, D.bool_b, Bool.false_eq_true, ↓reduceIte, dlt_f]
    refine round_exit (by omega) ?_
    show lp9a [.l ((Lrow p).map encI), .l (p.map encI), .i (p.length : Int), .i (p.length : Int), .i a, .i b, .i (B p (-1) p.length), .i c] = _
    simp only [lp9a, dp_enc, B_all]
end Go.Proofs.Ytdehhmcfhaeheaa.rv
