/-
  Radial drawings: the loop that makes the wedges.
-/
import Derived.Test.YtdehhmcfhaeheaaRvRad8
namespace Go.Proofs.Ytdehhmcfhaeheaa.rv
open Go.RV

def m9μ : List D → Nat := fun ρ => ((ρ.getD 2 default).int - (ρ.getD 3 default).int).toNat
theorem wrow_step {p : List Int} (hp : Forest p) {i : Nat} (hi : i < p.length) :
    (0 ≤ par p i → (((rowF (wrow p i) p.length).set (par p i).toNat ((W p (par p i).toNat).1, (W p (par p i).toNat).2, L p (par p i).toNat, B p (par p i) i + L p i)).set i ((W p i).1, (W p i).2, L p i, 0)) = rowF (wrow p (i + 1)) p.length) ∧
    (par p i < 0 → ((rowF (wrow p i) p.length).set i ((W p i).1, (W p i).2, L p i, 0)) = rowF (wrow p (i + 1)) p.length) := by
  have hb := hp.2 i hi
  refine ⟨fun h0 => ?_, fun h0 => ?_⟩
  · rw [rowF_set, rowF_set]
    refine rowF_congr fun v hv => ?_
    unfold wrow
    by_cases e : v = i
    · subst e
      rw [if_pos rfl, if_pos (by omega), B_none hp (by omega) (by omega)]
    · rw [if_neg e]
      by_cases e1 : v = (par p i).toNat
      · subst e1
        rw [if_pos rfl, if_pos (by omega), B_succ, ch, if_pos (by omega), show (((par p i).toNat : Nat) : Int) = par p i by omega]
      · rw [if_neg e1]
        by_cases e2 : v < i
        · rw [if_pos e2, if_pos (by omega), B_succ, ch, if_neg (by omega)]
          simp
        · rw [if_neg e2, if_neg (by omega)]
  · rw [rowF_set]
    refine rowF_congr fun v hv => ?_
    unfold wrow
    by_cases e : v = i
    · subst e
      rw [if_pos rfl, if_pos (by omega), B_none hp (by omega) (by omega)]
    · rw [if_neg e]
      by_cases e2 : v < i
      · rw [if_pos e2, if_pos (by omega), B_succ, ch, if_neg (by omega)]
        simp
      · rw [if_neg e2, if_neg (by omega)]
theorem pw_W {p : List Int} (hp : Forest p) {i : Nat} (hi : i < p.length) (h0 : 0 ≤ par p i) : pw ((W p (par p i).toNat).1, (W p (par p i).toNat).2, L p (par p i).toNat, B p (par p i) i) (L p i) = W p i := by
  rw [W_eq hp hi, above, if_pos h0, L_par hp hi h0]
  rfl
theorem pw_root {p : List Int} (hp : Forest p) {i : Nat} (hi : i < p.length) (h0 : par p i < 0) : pw (0, 360, S p (-1), B p (-1) i) (L p i) = W p i := by
  have e : par p i = -1 := by have := hp.2 i hi; omega
  rw [W_eq hp hi, above, if_neg (by omega), e]
  rfl
theorem wOk_at {p : List Int} (hp : Forest p) {i : Nat} (hi : i < p.length) (h0 : 0 ≤ par p i) : wOk ((W p (par p i).toNat).1, (W p (par p i).toNat).2, L p (par p i).toNat, B p (par p i) i) (L p i) := by
  have hb := hp.2 i hi
  have h64 := hp.1
  have hW := W_ok hp (q := 0) (by omega) (by omega) _ (par p i).toNat (Nat.le_refl _) (by omega)
  have h1 := L_le hp _ (par p i).toNat (Nat.le_refl _) (by omega)
  have h2 := L_pos p (par p i).toNat
  have h3 := B_le hi
  have h4 := L_par hp hi h0
  have h5 := L_pos p i
  refine ⟨⟨by omega, by simp only; omega⟩, ⟨by simp only; omega, by simp only; omega⟩, ⟨h2, by simp only; omega⟩, h3.1, by omega, by simp only; omega⟩
theorem wOk_root {p : List Int} (hp : Forest p) {i : Nat} (hi : i < p.length) (h0 : par p i < 0) : wOk (0, 360, S p (-1), B p (-1) i) (L p i) := by
  have e : par p i = -1 := by have := hp.2 i hi; omega
  have h64 := hp.1
  have h1 := S_roots hp
  have h3 := B_le hi
  have h5 := L_pos p i
  rw [e] at h3
  refine ⟨⟨by simp only; omega, by simp only; omega⟩, ⟨by simp only; omega, by simp only; omega⟩, ⟨by simp only; omega, by simp only; omega⟩, h3.1, by omega, by simp only; omega⟩
theorem loopM9_1 : LoopMeets Try.prog F (R L9_1.key) L9_1 lb9_1 := by
  refine loop_meets (pre := R) mixed (sgAt_all (P := Try.prog) (pre := R) (Φ := F) (l := sg9) (List.forall_mem_cons.2 ⟨Meets.at (pre := R) (Φ := F) m22, List.forall_mem_cons.2 ⟨Meets.at (pre := R) (Φ := F) m12, List.forall_mem_cons.2 ⟨mp9_23, List.forall_mem_cons.2 ⟨MeetsAt.name, List.forall_mem_cons.2 ⟨MeetsAt.name, (fun _ h => nomatch h)⟩⟩⟩⟩⟩)) (loops_n 0 lk9_1 fun k hk => by omega) L9_1 m9μ le9_1 fun ρ _ hq => ?_
  obtain ⟨p, i, rfl, hp, hi⟩ : pr9b ρ := hq
  have h64 := hp.1
  by_cases hlt : i < p.length
  · have hb := hp.2 i hlt
    have hB := B_root hp hi
    have hLk := L_le hp _ i (Nat.le_refl _) hlt
    have hLp := L_pos p i
    have hlen : (Lrow p).length = p.length := rowF_len
    have hlw : (rowF (wrow p i) p.length).length = p.length := rowF_len
    have hla : (rowF (ang p) i).length = i := rowF_len
    have hLi : (Lrow p).getD i 0 = L p i := rowF_get 0 hlt
    have hpi : (p.map encI).getD i [] = encI (par p i) := parI hlt
    have hW := W_ok hp (q := 0) (by omega) (by omega) _ i (Nat.le_refl _) hlt
    obtain ⟨w1, w2⟩ := wrow_step hp hlt
    have hN : ∀ (x : Int) (rows : List Bx), x = B p (-1) (i + 1) → rows = rowF (wrow p (i + 1)) p.length → RoundOk F (R L9_1.key) m9μ L9_1 [.l ((Lrow p).map encI), .l (p.map encI), .i (p.length : Int), .i (i : Int), .i 0, .i 360, .i (S p (-1)), .i (B p (-1) i), .l ((rowF (wrow p i) p.length).map encQ), .l ((rowF (ang p) i).map encI)] [.i (-1), .i ((i + 1 : Nat) : Int), .i x, .l (rows.map encQ), .l ((rowF (ang p) i ++ [(W p i).1 + (W p i).2 / 2]).map encI)] := by
      rintro x rows rfl rfl
      rw [show (W p i).1 + (W p i).2 / 2 = ang p i from rfl, rowF_snoc]
      refine round_next ⟨⟨p, i + 1, rfl, hp, by omega⟩, ?_, rfl⟩
      show ((p.length : Int) - ((i + 1 : Nat) : Int)).toNat < ((p.length : Int) - (i : Int)).toNat
      omega
    by_cases h0 : 0 ≤ par p i
    · have hg : (rowF (wrow p i) p.length).getD (par p i).toNat q0 = ((W p (par p i).toNat).1, (W p (par p i).toNat).2, L p (par p i).toNat, B p (par p i) i) := by
        rw [rowF_get q0 (by omega), wrow, if_pos (by omega), show (((par p i).toNat : Nat) : Int) = par p i by omega]
      have hpre : partRpre [.l ((rowF (wrow p i) p.length).map encQ), .i (par p i), .i (L p i)] := ⟨_, (par p i).toNat, L p i, by rw [show (((par p i).toNat : Nat) : Int) = par p i by omega], by rw [hlw]; omega, by rw [hg]; exact wOk_at hp hlt h0⟩
      have hP : partR [.l ((rowF (wrow p i) p.length).map encQ), .i (par p i), .i (L p i)] = [.i 0, .l (((rowF (wrow p i) p.length).set (par p i).toNat ((W p (par p i).toNat).1, (W p (par p i).toNat).2, L p (par p i).toNat, B p (par p i) i + L p i)).map encQ), .i (W p i).1, .i (W p i).2, .i 0, .i 0] := by
        simp only [partR, map_decQ, hg, pw_W hp hlt h0]
      have w1 := w1 h0
      generalize hX : (rowF (wrow p i) p.length).set (par p i).toNat ((W p (par p i).toNat).1, (W p (par p i).toNat).2, L p (par p i).toNat, B p (par p i) i + L p i) = rws at *
      have hXl : rws.length = p.length := by rw [← hX, List.length_set, hlw]
      have hY : ∀ q : Bx, (rws.set i q).length = p.length := fun q => by rw [List.length_set, hXl]
      have hYg : ∀ q : Bx, ((rws.set i q).map encQ).getD i [] = encQ q := fun q => by
        rw [rowQ (by rw [hY]; omega)]; simp [List.getD, hXl, hlt]
      simp (disch := omega) only [rt9_1, VT.ok, Nd.holds, X.outs, X.ds, X.d, Op1.ev, Op2.ev, takeD_zero, takeD_cons, List.cons_append, List.nil_append, List.getD_cons_zero, List.getD_cons_succ, D.int_i, D.bool_b, D.lst_l, Int.toNat_natCast, List.length_map, implies_true, true_and, F16023000, R16023000, ↓reduceIte, dle_t, dlt_t, w64', hpi, rowI, hLi, encI, hlen, hlw, hP]
      refine ⟨fun _ => hpre, ?_⟩
      simp (disch := omega) only [List.getD_cons_zero, List.getD_cons_succ, D.int_i, List.length_map, implies_true, true_and, dle_t, dlt_t, w64', rowQ, splQ0, splQ2, setQ, hYg, encQ, hY, List.set_set, tdivp, catI, List.length_append, List.length_cons, List.length_nil, hla]
      refine hN _ _ ?_ w1
      rw [B_succ, ch, if_neg (by omega)]; omega
    · have hpre : partBpre [.i 0, .i 360, .i (S p (-1)), .i (B p (-1) i), .i (L p i)] := ⟨_, L p i, rfl, wOk_root hp hlt (by omega)⟩
      have hP : partB [.i 0, .i 360, .i (S p (-1)), .i (B p (-1) i), .i (L p i)] = [.i 0, .i (B p (-1) i + L p i), .i (W p i).1, .i (W p i).2, .i 0, .i 0] := by
        simp only [partB, pw_root hp hlt (by omega)]
      have w2 := w2 (by omega)
      generalize hX : rowF (wrow p i) p.length = rws at *
      have hY : ∀ q : Bx, (rws.set i q).length = p.length := fun q => by rw [List.length_set, hlw]
      have hYg : ∀ q : Bx, ((rws.set i q).map encQ).getD i [] = encQ q := fun q => by
        rw [rowQ (by rw [hY]; omega)]; simp [List.getD, hlw, hlt]
      simp (disch := omega) only [rt9_1, VT.ok, Nd.holds, X.outs, X.ds, X.d, Op1.ev, Op2.ev, takeD_zero, takeD_cons, List.cons_append, List.nil_append, List.getD_cons_zero, List.getD_cons_succ, D.int_i, D.bool_b, D.lst_l, Int.toNat_natCast, List.length_map, Bool.false_eq_true, implies_true, true_and, F16023001, R16023001, ↓reduceIte, dle_t, dle_f, dlt_t, w64', hpi, rowI, hLi, encI, hlen, hlw, hP]
      refine ⟨fun _ => hpre, ?_⟩
      simp (disch := omega) only [List.getD_cons_zero, List.getD_cons_succ, D.int_i, List.length_map, implies_true, true_and, dle_t, dlt_t, w64', rowQ, splQ0, splQ2, setQ, hYg, encQ, hY, List.set_set, tdivp, catI, List.length_append, List.length_cons, List.length_nil, hla]
      refine hN _ _ ?_ w2
      rw [B_succ, ch, if_pos (by omega)]
  · have hj : i = p.length := by omega
    subst hj
    simp (disch := omega) only [rt9_1, VT.ok, X.ds, X.d, Op2.ev, List.getD_cons_zero, List.getD_cons_succ, D.int_i, D.bool_b, Bool.false_eq_true, ↓reduceIte, dlt_f]
    refine round_exit (by omega) ?_
    rw [show F L9_1.key = lp9b from F10901]
    simp only [lp9b, dp_enc, B_all, List.length_map]
    rfl
end Go.Proofs.Ytdehhmcfhaeheaa.rv
