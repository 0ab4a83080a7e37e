/-
  Radial drawings: the loops of the leaves.
-/
import Derived.Test.YtdehhmcfhaeheaaRvRad4
namespace Go.Proofs.Ytdehhmcfhaeheaa.rv
open Go.RV

theorem max1 {p : List Int} (hp : Forest p) {k : Nat} (hk : k < p.length) : max (S p k) 1 = L p k := by
  have := L_eq hp hk
  omega
theorem lp12_eq (p : List Int) (i : Int) (acc : List (List D)) : lp12 [.l (p.map encI), .i i, .l acc] = [.i 0, .i (-1), .l ((Lrow p).map encI)] := by
  simp only [lp12, dp_enc]
theorem next12 {p : List Int} (hp : Forest p) {k : Nat} (hk : k + 1 ≤ p.length) {x : List (List D)} (acc : List Int) (L0 : LoopSig) (hL : L0.key = 11200 ∨ L0.key = 11300) (hw : L0.wv = [1, 2]) (hx : acc = rowF (down p k) p.length) :
    RoundOk F (R L0.key) (fun ρ => (((ρ.getD 1 default).int) + 1).toNat) L0 [.l (p.map encI), .i (k : Int), .l x] [.i (-1), .i ((k : Int) - 1), .l (acc.map encI)] := by
  have hF : F L0.key = lp12 := by rcases hL with h | h <;> rw [h] <;> rfl
  have hR : R L0.key = pr12 := by rcases hL with h | h <;> rw [h] <;> rfl
  refine round_next ?_
  rw [hw, hF, hR]
  refine ⟨⟨p, k, by rw [hx]; rfl, hp, by omega⟩, ?_, ?_⟩
  · show ((k : Int) - 1 + 1).toNat < ((k : Int) + 1).toNat
    omega
  · show lp12 [.l (p.map encI), .i ((k : Int) - 1), .l (acc.map encI)] = lp12 [.l (p.map encI), .i (k : Int), .l x]
    rw [lp12_eq, lp12_eq]
theorem loopM12_0 : LoopMeets Try.prog F (R L12_0.key) L12_0 lb12_0 := by
  refine loop_meets (pre := R) mixed (sgAt_all (P := Try.prog) (pre := R) (Φ := F) (l := sg12) (List.forall_mem_cons.2 ⟨Meets.at (pre := R) (Φ := F) m22, (fun _ h => nomatch h)⟩)) (loops_n 0 lk12_0 fun k hk => by omega) L12_0 (fun ρ => (((ρ.getD 1 default).int) + 1).toNat) le12_0 fun ρ _ hq => ?_
  obtain ⟨p, k', rfl, hp, hk'⟩ : pr12 ρ := hq
  match k', hk' with
  | 0, _ =>
    simp (disch := omega) only [rt12_0, VT.ok, X.ds, X.d, Op2.ev, List.getD_cons_zero, List.getD_cons_succ, D.int_i, D.bool_b, Bool.false_eq_true, ↓reduceIte, dle_f]
    refine round_exit (by omega) ?_
    show lp12 [.l (p.map encI), .i (((0 : Nat) : Int) - 1), .l ((rowF (down p 0) p.length).map encI)] = _
    rw [lp12_eq, down_zero]; rfl
  | k + 1, hk =>
    obtain ⟨s1, s2, s3⟩ := down_step hp hk
    have hb := hp.2 k (by omega)
    have hm := max1 hp (by omega : k < p.length)
    have hLk := L_le hp _ k (Nat.le_refl _) (by omega)
    have hLp := L_pos p k
    have h64 := hp.1
    have hpk : (p.map encI).getD k [] = encI (par p k) := parI (by omega)
    have e : (((k + 1 : Nat) : Int) - 1) = (k : Int) := by omega
    rw [e]
    have hlen : (rowF (down p (k + 1)) p.length).length = p.length := rowF_len
    have hlen2 : ((rowF (down p (k + 1)) p.length).set k (L p k)).length = p.length := by rw [List.length_set, hlen]
    by_cases h0 : 0 ≤ par p k
    · have hv : ((rowF (down p (k + 1)) p.length).set k (L p k)).getD (par p k).toNat 0 = S p (par p k) - B p (par p k) (k + 1) := by
        rw [rowF_set, rowF_get 0 (by omega), if_neg (by omega), down, if_neg (by omega), show (((par p k).toNat : Nat) : Int) = par p k by omega]
      have hbd := B_bd hp (v := (par p k).toNat) (by omega) (k := k + 1) (by omega)
      rw [show (((par p k).toNat : Nat) : Int) = par p k by omega] at hbd
      have hv2 : ((rowF (down p (k + 1)) p.length).set k (L p k)).getD k 0 = L p k := by
        rw [rowF_set, rowF_get 0 (by omega), if_pos rfl]
      simp (disch := omega) only [rt12_0, VT.ok, Nd.holds, X.ds, X.d, Op1.ev, Op2.ev, List.getD_cons_zero, List.getD_cons_succ, D.int_i, D.bool_b, D.lst_l, imax, Int.toNat_natCast, List.length_map, implies_true, true_and, ↓reduceIte, dle_t, dlt_t, w64', hpk, rowI, splI, setI, encI, s1, hm, hlen, hlen2, hv, hv2]
      refine next12 hp hk _ L12_0 (.inl rfl) rfl ?_
      rw [← s3 h0, hv]
    · simp (disch := omega) only [rt12_0, VT.ok, Nd.holds, X.ds, X.d, Op1.ev, Op2.ev, List.getD_cons_zero, List.getD_cons_succ, D.int_i, D.bool_b, D.lst_l, imax, Int.toNat_natCast, List.length_map, Bool.false_eq_true, implies_true, true_and, ↓reduceIte, dle_t, dle_f, dlt_t, w64', hpk, rowI, splI, setI, encI, s1, hm, hlen]
      refine next12 hp hk _ L12_0 (.inl rfl) rfl ?_
      exact s2 (by omega)
theorem set_same (l : List Int) {i : Nat} (x : Int) (h : i < l.length) (hx : l.getD i 0 = x) : l.set i x = l := by
  refine List.ext_getElem (by simp) fun j h1 h2 => ?_
  rw [List.getElem_set]
  split
  · rename_i e
    subst e
    rw [← hx]; simp [List.getD, h]
  · rfl
theorem loopM13_0 : LoopMeets Try.prog F (R L13_0.key) L13_0 lb13_0 := by
  refine loop_meets (pre := R) mixed (sgAt_all (P := Try.prog) (pre := R) (Φ := F) (l := sg13) (List.forall_mem_cons.2 ⟨Meets.at (pre := R) (Φ := F) m19, (fun _ h => nomatch h)⟩)) (loops_n 0 lk13_0 fun k hk => by omega) L13_0 (fun ρ => (((ρ.getD 1 default).int) + 1).toNat) le13_0 fun ρ _ hq => ?_
  obtain ⟨p, k', rfl, hp, hk'⟩ : pr12 ρ := hq
  match k', hk' with
  | 0, _ =>
    simp (disch := omega) only [rt13_0, VT.ok, X.ds, X.d, Op2.ev, List.getD_cons_zero, List.getD_cons_succ, D.int_i, D.bool_b, Bool.false_eq_true, ↓reduceIte, dle_f]
    refine round_exit (by omega) ?_
    show lp12 [.l (p.map encI), .i (((0 : Nat) : Int) - 1), .l ((rowF (down p 0) p.length).map encI)] = _
    rw [lp12_eq, down_zero]; rfl
  | k + 1, hk =>
    obtain ⟨s1, s2, s3⟩ := down_step hp hk
    have hb := hp.2 k (by omega)
    have hL := L_eq hp (by omega : k < p.length)
    have hS := S_nonneg p k
    have hLk := L_le hp _ k (Nat.le_refl _) (by omega)
    have hLp := L_pos p k
    have h64 := hp.1
    have hpk : (p.map encI).getD k [] = encI (par p k) := parI (by omega)
    have e : (((k + 1 : Nat) : Int) - 1) = (k : Int) := by omega
    rw [e]
    have hlen : (rowF (down p (k + 1)) p.length).length = p.length := rowF_len
    have hlen2 : ((rowF (down p (k + 1)) p.length).set k (L p k)).length = p.length := by rw [List.length_set, hlen]
    have hv2 : ((rowF (down p (k + 1)) p.length).set k (L p k)).getD k 0 = L p k := by
      rw [rowF_set, rowF_get 0 (by omega), if_pos rfl]
    by_cases h0 : 0 ≤ par p k
    · have hv : ((rowF (down p (k + 1)) p.length).set k (L p k)).getD (par p k).toNat 0 = S p (par p k) - B p (par p k) (k + 1) := by
        rw [rowF_set, rowF_get 0 (by omega), if_neg (by omega), down, if_neg (by omega), show (((par p k).toNat : Nat) : Int) = par p k by omega]
      have hbd := B_bd hp (v := (par p k).toNat) (by omega) (k := k + 1) (by omega)
      rw [show (((par p k).toNat : Nat) : Int) = par p k by omega] at hbd
      by_cases hz : S p k = 0
      · have h1 : L p k = 1 := by omega
        rw [h1] at hv hv2 hlen2 s3
        simp (disch := omega) only [rt13_0, VT.ok, Nd.holds, X.ds, X.d, Op1.ev, Op2.ev, List.getD_cons_zero, List.getD_cons_succ, D.int_i, D.bool_b, D.lst_l, Int.toNat_natCast, List.length_map, implies_true, true_and, ↓reduceIte, dle_t, dlt_t, beq_t, w64', hpk, rowI, splI, setI, encI, s1, hlen, hlen2, hv, hv2]
        refine next12 hp hk _ L13_0 (.inr rfl) rfl ?_
        rw [← s3 h0, hv]
      · have h1 : S p k = L p k := by omega
        have hs := set_same (rowF (down p (k + 1)) p.length) (L p k) (by omega : k < _) (by omega)
        rw [hs] at hv hv2 hlen2 s3
        simp (disch := omega) only [rt13_0, VT.ok, Nd.holds, X.ds, X.d, Op1.ev, Op2.ev, List.getD_cons_zero, List.getD_cons_succ, D.int_i, D.bool_b, D.lst_l, Int.toNat_natCast, List.length_map, Bool.false_eq_true, implies_true, true_and, ↓reduceIte, dle_t, dlt_t, beq_f, w64', hpk, rowI, splI, setI, encI, s1, hlen, hv]
        refine next12 hp hk _ L13_0 (.inr rfl) rfl ?_
        rw [← s3 h0, hv, h1]
    · by_cases hz : S p k = 0
      · have h1 : L p k = 1 := by omega
        simp (disch := omega) only [rt13_0, VT.ok, Nd.holds, X.ds, X.d, Op1.ev, Op2.ev, List.getD_cons_zero, List.getD_cons_succ, D.int_i, D.bool_b, D.lst_l, Int.toNat_natCast, List.length_map, Bool.false_eq_true, implies_true, true_and, ↓reduceIte, dle_t, dle_f, dlt_t, beq_t, w64', hpk, rowI, splI, setI, encI, s1, hlen]
        refine next12 hp hk _ L13_0 (.inr rfl) rfl ?_
        rw [← h1]
        exact s2 (by omega)
      · have hs := set_same (rowF (down p (k + 1)) p.length) (L p k) (by omega : k < _) (by omega)
        simp (disch := omega) only [rt13_0, VT.ok, Nd.holds, X.ds, X.d, Op1.ev, Op2.ev, List.getD_cons_zero, List.getD_cons_succ, D.int_i, D.bool_b, D.lst_l, Int.toNat_natCast, List.length_map, Bool.false_eq_true, implies_true, true_and, ↓reduceIte, dle_t, dle_f, dlt_t, beq_f, w64', hpk, rowI, encI, s1, hlen]
        refine next12 hp hk _ L13_0 (.inr rfl) rfl ?_
        rw [← s2 (by omega), hs]
theorem lz (l : List Int) : List.replicate ((l.map encI).length : Int).toNat [D.i 0] = (rowF (fun _ => (0 : Int)) l.length).map encI := by
  rw [← rowF_rep encI, List.length_map, Int.toNat_natCast]; rfl
theorem m12 : Meets Try.prog 12 S12 (R 12) (F 12) := by
  refine meets_of_vt (pre := R) (Φ := F) mixed (sgAt_all (P := Try.prog) (pre := R) (Φ := F) (l := sg12) (List.forall_mem_cons.2 ⟨Meets.at (pre := R) (Φ := F) m22, (fun _ h => nomatch h)⟩)) Try.func12 b12 n12 (loops_n 1 k12 fun k hk => match k, hk with | 0, _ => loop_this lf12_0 loopM12_0) e12 fun ds _ hp => ?_
  obtain ⟨l, rfl, hm⟩ : lPre ds := hp
  simp only [vt12, VT.ok, Nd.holds, X.outs, X.ds, X.d, Op1.ev, Op2.ev, takeD_zero, takeD_cons, List.cons_append, List.nil_append, List.getD_cons_zero, List.getD_cons_succ, D.int_i, D.bool_b, D.lst_l, Int.toNat_natCast, List.length_map, F22, R22, F12, F11200, R11200, okD, dp_enc, leavesD]
  refine ⟨fun _ => ⟨l, rfl, hm⟩, ?_⟩
  cases hq : okF l
  · rfl
  · have hf := okF_iff.1 hq
    have h64 := hf.1
    have hz : List.replicate l.length [D.i 0] = (rowF (down l l.length) l.length).map encI := by
      rw [down_top, ← rowF_rep encI]; rfl
    have hpre : pr12 [.l (l.map encI), .i ((l.length : Int) - 1), .l ((rowF (down l l.length) l.length).map encI)] := ⟨l, l.length, rfl, hf, Nat.le_refl _⟩
    simp (disch := omega) only [takeD_zero, takeD_cons, List.getD_cons_zero, List.getD_cons_succ, Bool.false_eq_true, implies_true, true_and, and_true, ↓reduceIte, dle_t, w64', Bool.not_true, hz, lp12_eq]
    exact fun _ => hpre
theorem m13 : Meets Try.prog 13 S13 (R 13) (F 13) := by
  refine meets_of_vt (pre := R) (Φ := F) mixed (sgAt_all (P := Try.prog) (pre := R) (Φ := F) (l := sg13) (List.forall_mem_cons.2 ⟨Meets.at (pre := R) (Φ := F) m19, (fun _ h => nomatch h)⟩)) Try.func13 b13 n13 (loops_n 1 k13 fun k hk => match k, hk with | 0, _ => loop_this lf13_0 loopM13_0) e13 fun ds _ hp => ?_
  obtain ⟨l, rfl, hm⟩ : lPre ds := hp
  simp only [vt13, VT.ok, Nd.holds, X.outs, X.ds, X.d, Op1.ev, Op2.ev, takeD_zero, takeD_cons, List.cons_append, List.nil_append, List.getD_cons_zero, List.getD_cons_succ, D.int_i, D.bool_b, D.lst_l, Int.toNat_natCast, List.length_map, F19, R19, F13, F11300, R11300, okD, dp_enc, leavesD]
  refine ⟨fun _ => ⟨l, rfl, hm⟩, ?_⟩
  cases hq : okF l
  · rfl
  · have hf := okF_iff.1 hq
    have h64 := hf.1
    have hz : List.replicate l.length [D.i 0] = (rowF (down l l.length) l.length).map encI := by
      rw [down_top, ← rowF_rep encI]; rfl
    have hpre : pr12 [.l (l.map encI), .i ((l.length : Int) - 1), .l ((rowF (down l l.length) l.length).map encI)] := ⟨l, l.length, rfl, hf, Nat.le_refl _⟩
    simp (disch := omega) only [takeD_zero, takeD_cons, List.getD_cons_zero, List.getD_cons_succ, Bool.false_eq_true, implies_true, true_and, and_true, ↓reduceIte, dle_t, w64', Bool.not_true, hz, lp12_eq]
    exact fun _ => hpre
end Go.Proofs.Ytdehhmcfhaeheaa.rv
