/-
  Graphs: names and labels.
-/
import Derived.Test.YtjdhicmkkmfcgaaRvTab
namespace Go.Proofs.Ytjdhicmkkmfcgaa.rv
open Go.RV

theorem kw6 (a b c d e f : Bool) : (if a = true then [D.b true] else if b = true then [D.b true] else if c = true then [D.b true] else if d = true then [D.b true] else if e = true then [D.b true] else if f = true then [D.b true] else [D.b false]) = [D.b (a || (b || (c || (d || (e || f)))))] := by
  cases a <;> cases b <;> cases c <;> cases d <;> cases e <;> cases f <;> rfl
theorem fn60_eq (ds : List D) : fn60 ds = letD ds := by
  show vt60.val T60 ds = _
  show [if (if (if decide (97 ≤ cI ds 0) = true then D.b (decide (cI ds 0 ≤ 122)) else D.b false).bool = true then D.b true else (if decide (65 ≤ cI ds 0) = true then D.b (decide (cI ds 0 ≤ 90)) else D.b false)).bool = true then D.b true else D.b (cI ds 0 == 95)] = _
  simp only [ite_b, D.bool_b, ite_and, ite_or]
  rfl
theorem fn61_eq (ds : List D) : fn61 ds = digD ds := by
  show vt61.val T61 ds = _
  show [if decide (48 ≤ cI ds 0) = true then D.b (decide (cI ds 0 ≤ 57)) else D.b false] = _
  simp only [ite_b, ite_and]
  rfl
theorem fn48_eq (ds : List D) : fn48 ds = kwD ds := by
  exact kw6 _ _ _ _ _ _
theorem loopM47_0 : LoopMeets Try.prog F (R L47_0.key) L47_0 lb47_0 := by
  refine loop_meets (pre := R) mixed (sgAt_all (P := Try.prog) (pre := R) (Φ := F) (l := sg47) (List.forall_mem_cons.2 ⟨Meets.at (pre := R) (Φ := F) m60, List.forall_mem_cons.2 ⟨Meets.at (pre := R) (Φ := F) m61, (fun _ h => nomatch h)⟩⟩)) (loops_n 0 lk47_0 fun k hk => by omega) L47_0 (fun ρ => (((ρ.getD 0 default).str.size : Int) - (ρ.getD 1 default).int).toNat) le47_0 fun ρ _ hq => ?_
  obtain ⟨s, j, rfl, hj, hm⟩ : prWord ρ := hq
  rw [maxLen_val] at hm
  by_cases hlt : j < s.size
  · simp (disch := omega) only [rt47_0, VT.ok, Nd.holds, X.outs, X.ds, X.d, Op1.ev, Op2.ev, takeD_zero, takeD_cons, List.cons_append, List.nil_append, List.getD_cons_zero, List.getD_cons_succ, D.int_i, D.bool_b, D.str_s, ite_b, ite_or, ite_and, Int.toNat_natCast, implies_true, true_and, F60, R60, F61, R61, ↓reduceIte, dle_t, dlt_t, w64', fn60_eq, fn61_eq, letD, digD, cI, Int.toNat_natCast]
    have hN : wordP s j = false → RoundOk F (R L47_0.key) (fun ρ => (((ρ.getD 0 default).str.size : Int) - (ρ.getD 1 default).int).toNat) L47_0 [.s s, .i (j : Int)] [.i (-1), .i ((j + 1 : Nat) : Int)] := fun hb => by
      refine round_next ⟨⟨s, j + 1, rfl, by omega, hm⟩, ?_, ?_⟩
      · show ((s.size : Int) - ((j + 1 : Nat) : Int)).toNat < ((s.size : Int) - (j : Int)).toNat
        omega
      · show lpWord [.s s, .i ((j + 1 : Nat) : Int)] = lpWord [.s s, .i (j : Int)]
        simp only [lpWord, Int.toNat_natCast]
        exact scan_next hlt hb
    have hX : wordP s j = true → RoundOk F (R L47_0.key) (fun ρ => (((ρ.getD 0 default).str.size : Int) - (ρ.getD 1 default).int).toNat) L47_0 [.s s, .i (j : Int)] [.i 0, .i (j : Int)] := fun hb => by
      refine round_exit (by omega) ?_
      show lpWord [.s s, .i (j : Int)] = _
      simp only [lpWord, Int.toNat_natCast]
      exact scan_hit hlt hb
    have e : wordP s j = !(letB (bt s j) || (decide (0 < (j : Int)) && digB (bt s j))) := rfl
    cases hb : letB (bt s j)
    · cases hb2 : (decide (0 < (j : Int)) && digB (bt s j))
      · rw [hb, hb2] at e
        show if (letB (bt s j) || (decide (0 < (j : Int)) && digB (bt s j))) = true then _ else _
        rw [hb, hb2]
        exact hX e
      · rw [hb, hb2] at e
        show if (letB (bt s j) || (decide (0 < (j : Int)) && digB (bt s j))) = true then _ else _
        rw [hb, hb2]
        exact hN e
    · rw [hb] at e
      show if (letB (bt s j) || (decide (0 < (j : Int)) && digB (bt s j))) = true then _ else _
      rw [hb]
      exact hN e
  · have hj' : j = s.size := by omega
    subst hj'
    simp (disch := omega) only [rt47_0, VT.ok, Nd.holds, X.outs, X.ds, X.d, Op1.ev, Op2.ev, List.cons_append, List.nil_append, List.getD_cons_zero, List.getD_cons_succ, D.int_i, D.bool_b, D.str_s, Int.toNat_natCast, Bool.false_eq_true, implies_true, true_and, false_implies, ↓reduceIte, dle_t, dlt_f]
    refine round_exit (by omega) ?_
    show lpWord [.s s, .i (s.size : Int)] = _
    simp only [lpWord, Int.toNat_natCast]
    exact scan_end
theorem m47 : Meets Try.prog 47 S47 (R 47) (F 47) := by
  refine meets_of_vt (pre := R) (Φ := F) mixed (sgAt_all (P := Try.prog) (pre := R) (Φ := F) (l := sg47) (List.forall_mem_cons.2 ⟨Meets.at (pre := R) (Φ := F) m60, List.forall_mem_cons.2 ⟨Meets.at (pre := R) (Φ := F) m61, (fun _ h => nomatch h)⟩⟩)) Try.func47 b47 n47 (loops_n 1 k47 fun k hk => match k, hk with | 0, _ => loop_this lf47_0 loopM47_0) e47 fun ds hf _ => ?_
  obtain ⟨x, rfl, hx⟩ := fits1 hf.flat
  obtain ⟨s, rfl, hs⟩ := wf_str hx
  have hpre : prWord [.s s, .i 0] := ⟨s, 0, rfl, by omega, hs⟩
  simp only [vt47, VT.ok, Nd.holds, X.outs, X.ds, X.d, List.cons_append, List.nil_append, List.getD_cons_zero, List.getD_cons_succ, D.bool_b, F14700, R14700, F47]
  refine ⟨fun _ => hpre, ?_⟩
  simp only [lpWord, Int.toNat_zero, Nat.sub_zero, scan_fs, wordD, cS, List.getD_cons_zero, D.str_s]
  by_cases h : fs (wordP s) s.size < s.size
  · rw [if_pos h]; rfl
  · have := fs_le (wordP s) s.size
    rw [if_neg h, show fs (wordP s) s.size = s.size by omega]; rfl
theorem fn65_eq (ds : List D) : fn65 ds = letD ds := by
  show vt65.val T65 ds = _
  show [if (if (if decide (97 ≤ cI ds 0) = true then D.b (decide (cI ds 0 ≤ 122)) else D.b false).bool = true then D.b true else (if decide (65 ≤ cI ds 0) = true then D.b (decide (cI ds 0 ≤ 90)) else D.b false)).bool = true then D.b true else D.b (cI ds 0 == 95)] = _
  simp only [ite_b, D.bool_b, ite_and, ite_or]
  rfl
theorem fn66_eq (ds : List D) : fn66 ds = digD ds := by
  show vt66.val T66 ds = _
  show [if decide (48 ≤ cI ds 0) = true then D.b (decide (cI ds 0 ≤ 57)) else D.b false] = _
  simp only [ite_b, ite_and]
  rfl
theorem fn55_eq (ds : List D) : fn55 ds = kwD ds := by
  exact kw6 _ _ _ _ _ _
theorem loopM54_0 : LoopMeets Try.prog F (R L54_0.key) L54_0 lb54_0 := by
  refine loop_meets (pre := R) mixed (sgAt_all (P := Try.prog) (pre := R) (Φ := F) (l := sg54) (List.forall_mem_cons.2 ⟨Meets.at (pre := R) (Φ := F) m65, List.forall_mem_cons.2 ⟨Meets.at (pre := R) (Φ := F) m66, (fun _ h => nomatch h)⟩⟩)) (loops_n 0 lk54_0 fun k hk => by omega) L54_0 (fun ρ => (((ρ.getD 0 default).str.size : Int) - (ρ.getD 1 default).int).toNat) le54_0 fun ρ _ hq => ?_
  obtain ⟨s, j, rfl, hj, hm⟩ : prWord ρ := hq
  rw [maxLen_val] at hm
  by_cases hlt : j < s.size
  · simp (disch := omega) only [rt54_0, VT.ok, Nd.holds, X.outs, X.ds, X.d, Op1.ev, Op2.ev, takeD_zero, takeD_cons, List.cons_append, List.nil_append, List.getD_cons_zero, List.getD_cons_succ, D.int_i, D.bool_b, D.str_s, ite_b, ite_or, ite_and, Int.toNat_natCast, implies_true, true_and, F65, R65, F66, R66, ↓reduceIte, dle_t, dlt_t, w64', fn65_eq, fn66_eq, letD, digD, cI, Int.toNat_natCast]
    have hN : wordP s j = false → RoundOk F (R L54_0.key) (fun ρ => (((ρ.getD 0 default).str.size : Int) - (ρ.getD 1 default).int).toNat) L54_0 [.s s, .i (j : Int)] [.i (-1), .i ((j + 1 : Nat) : Int)] := fun hb => by
      refine round_next ⟨⟨s, j + 1, rfl, by omega, hm⟩, ?_, ?_⟩
      · show ((s.size : Int) - ((j + 1 : Nat) : Int)).toNat < ((s.size : Int) - (j : Int)).toNat
        omega
      · show lpWord [.s s, .i ((j + 1 : Nat) : Int)] = lpWord [.s s, .i (j : Int)]
        simp only [lpWord, Int.toNat_natCast]
        exact scan_next hlt hb
    have hX : wordP s j = true → RoundOk F (R L54_0.key) (fun ρ => (((ρ.getD 0 default).str.size : Int) - (ρ.getD 1 default).int).toNat) L54_0 [.s s, .i (j : Int)] [.i 0, .i (j : Int)] := fun hb => by
      refine round_exit (by omega) ?_
      show lpWord [.s s, .i (j : Int)] = _
      simp only [lpWord, Int.toNat_natCast]
      exact scan_hit hlt hb
    have e : wordP s j = !(letB (bt s j) || (decide (0 < (j : Int)) && digB (bt s j))) := rfl
    cases hb : letB (bt s j)
    · cases hb2 : (decide (0 < (j : Int)) && digB (bt s j))
      · rw [hb, hb2] at e
        show if (letB (bt s j) || (decide (0 < (j : Int)) && digB (bt s j))) = true then _ else _
        rw [hb, hb2]
        exact hX e
      · rw [hb, hb2] at e
        show if (letB (bt s j) || (decide (0 < (j : Int)) && digB (bt s j))) = true then _ else _
        rw [hb, hb2]
        exact hN e
    · rw [hb] at e
      show if (letB (bt s j) || (decide (0 < (j : Int)) && digB (bt s j))) = true then _ else _
      rw [hb]
      exact hN e
  · have hj' : j = s.size := by omega
    subst hj'
    simp (disch := omega) only [rt54_0, VT.ok, Nd.holds, X.outs, X.ds, X.d, Op1.ev, Op2.ev, List.cons_append, List.nil_append, List.getD_cons_zero, List.getD_cons_succ, D.int_i, D.bool_b, D.str_s, Int.toNat_natCast, Bool.false_eq_true, implies_true, true_and, false_implies, ↓reduceIte, dle_t, dlt_f]
    refine round_exit (by omega) ?_
    show lpWord [.s s, .i (s.size : Int)] = _
    simp only [lpWord, Int.toNat_natCast]
    exact scan_end
theorem m54 : Meets Try.prog 54 S54 (R 54) (F 54) := by
  refine meets_of_vt (pre := R) (Φ := F) mixed (sgAt_all (P := Try.prog) (pre := R) (Φ := F) (l := sg54) (List.forall_mem_cons.2 ⟨Meets.at (pre := R) (Φ := F) m65, List.forall_mem_cons.2 ⟨Meets.at (pre := R) (Φ := F) m66, (fun _ h => nomatch h)⟩⟩)) Try.func54 b54 n54 (loops_n 1 k54 fun k hk => match k, hk with | 0, _ => loop_this lf54_0 loopM54_0) e54 fun ds hf _ => ?_
  obtain ⟨x, rfl, hx⟩ := fits1 hf.flat
  obtain ⟨s, rfl, hs⟩ := wf_str hx
  have hpre : prWord [.s s, .i 0] := ⟨s, 0, rfl, by omega, hs⟩
  simp only [vt54, VT.ok, Nd.holds, X.outs, X.ds, X.d, List.cons_append, List.nil_append, List.getD_cons_zero, List.getD_cons_succ, D.bool_b, F15400, R15400, F54]
  refine ⟨fun _ => hpre, ?_⟩
  simp only [lpWord, Int.toNat_zero, Nat.sub_zero, scan_fs, wordD, cS, List.getD_cons_zero, D.str_s]
  by_cases h : fs (wordP s) s.size < s.size
  · rw [if_pos h]; rfl
  · have := fs_le (wordP s) s.size
    rw [if_neg h, show fs (wordP s) s.size = s.size by omega]; rfl
theorem m27 : Meets Try.prog 27 S27 (R 27) (F 27) := by
  refine meets_of_vt (pre := R) (Φ := F) mixed (sgAt_all (P := Try.prog) (pre := R) (Φ := F) (l := sg27) (List.forall_mem_cons.2 ⟨Meets.at (pre := R) (Φ := F) m47, List.forall_mem_cons.2 ⟨Meets.at (pre := R) (Φ := F) m48, (fun _ h => nomatch h)⟩⟩)) Try.func27 b27 n27 (loops_n 0 k27 fun k hk => by omega) e27 fun ds hf _ => ?_
  obtain ⟨x, rfl, hx⟩ := fits1 hf.flat
  obtain ⟨s, rfl, hs⟩ := wf_str hx
  simp only [vt27, VT.ok, Nd.holds, X.outs, X.ds, X.d, Op1.ev, Op2.ev, takeD_zero, takeD_cons, List.cons_append, List.nil_append, List.getD_cons_zero, List.getD_cons_succ, D.int_i, D.bool_b, D.str_s, ite_b, ite_and, implies_true, and_true, F47, R47, F48, R48, F27, wordD, cS, fn48_eq, kwD, nameD, isName]
theorem m31 : Meets Try.prog 31 S31 (R 31) (F 31) := by
  refine meets_of_vt (pre := R) (Φ := F) mixed (sgAt_all (P := Try.prog) (pre := R) (Φ := F) (l := sg31) (List.forall_mem_cons.2 ⟨Meets.at (pre := R) (Φ := F) m54, List.forall_mem_cons.2 ⟨Meets.at (pre := R) (Φ := F) m55, (fun _ h => nomatch h)⟩⟩)) Try.func31 b31 n31 (loops_n 0 k31 fun k hk => by omega) e31 fun ds hf _ => ?_
  obtain ⟨x, rfl, hx⟩ := fits1 hf.flat
  obtain ⟨s, rfl, hs⟩ := wf_str hx
  simp only [vt31, VT.ok, Nd.holds, X.outs, X.ds, X.d, Op1.ev, Op2.ev, takeD_zero, takeD_cons, List.cons_append, List.nil_append, List.getD_cons_zero, List.getD_cons_succ, D.int_i, D.bool_b, D.str_s, ite_b, ite_and, implies_true, true_and, F54, R54, F55, R55, F31, wordD, cS, fn55_eq, kwD, nameD, isName]
  rw [Bool.and_right_comm (!(s == _))]

/-! ### labels -/
theorem byte_row (s : ByteArray) {j : Nat} (h : j < s.size) : cI (el (s.data.toList.map fun b => [D.i (b.toNat : Int)]) j) 0 = bt s j := by
  have hd : j < s.data.size := h
  have e : s[j]? = some s.data[j] := by
    rw [getElem?_pos s j h]; rfl
  simp only [el, cI, bt, List.getD, List.getElem?_map, Array.getElem?_toList, Array.getElem?_eq_getElem hd, Option.map_some, Option.getD_some, e, List.getElem?_cons_zero]
  rfl
theorem loopM49_0 : LoopMeets Try.prog F (R L49_0.key) L49_0 lb49_0 := by
  refine loop_meets (pre := R) mixed (sgAt_all (P := Try.prog) (pre := R) (Φ := F) (l := sg49) ((fun _ h => nomatch h))) (loops_n 0 lk49_0 fun k hk => by omega) L49_0 (fun ρ => ((ρ.getD 2 default).int - (ρ.getD 3 default).int).toNat) le49_0 fun ρ _ hq => ?_
  obtain ⟨v, bs, j, rfl, hj, hm⟩ : prLab ρ := hq
  rw [maxLen_val] at hm
  by_cases hlt : j < bs.length
  · simp (disch := omega) only [rt49_0, VT.ok, Nd.holds, X.ds, X.d, Op1.ev, Op2.ev, List.getD_cons_zero, List.getD_cons_succ, D.int_i, D.bool_b, D.lst_l, ite_b, ite_or, Int.toNat_natCast, implies_true, true_and, ↓reduceIte, dle_t, dlt_t, w64']
    show if (decide (cI (el bs j) 0 < 32) || decide (126 < cI (el bs j) 0)) = true then _ else _
    cases hb : (decide (cI (el bs j) 0 < 32) || decide (126 < cI (el bs j) 0))
    · simp only [Bool.false_eq_true, if_false]
      refine round_next ⟨⟨v, bs, j + 1, rfl, by omega, hm⟩, ?_, ?_⟩
      · show ((bs.length : Int) - ((j + 1 : Nat) : Int)).toNat < ((bs.length : Int) - (j : Int)).toNat
        omega
      · show lpLab [v, .l bs, .i (bs.length : Int), .i ((j + 1 : Nat) : Int)] = lpLab [v, .l bs, .i (bs.length : Int), .i (j : Int)]
        simp only [lpLab, Int.toNat_natCast]
        exact scan_next hlt hb
    · simp only [if_true]
      refine round_exit (by omega) ?_
      show lpLab [v, .l bs, .i (bs.length : Int), .i (j : Int)] = _
      simp only [lpLab, Int.toNat_natCast]
      exact scan_hit hlt hb
  · have hj' : j = bs.length := by omega
    subst hj'
    simp (disch := omega) only [rt49_0, VT.ok, X.ds, X.d, Op2.ev, List.getD_cons_zero, List.getD_cons_succ, D.int_i, D.bool_b, Bool.false_eq_true, ↓reduceIte, dlt_f]
    refine round_exit (by omega) ?_
    show lpLab [v, .l bs, .i (bs.length : Int), .i (bs.length : Int)] = _
    simp only [lpLab, Int.toNat_natCast]
    exact scan_end
theorem m49 : Meets Try.prog 49 S49 (R 49) (F 49) := by
  refine meets_of_vt (pre := R) (Φ := F) mixed (sgAt_all (P := Try.prog) (pre := R) (Φ := F) (l := sg49) ((fun _ h => nomatch h))) Try.func49 b49 n49 (loops_n 1 k49 fun k hk => match k, hk with | 0, _ => loop_this lf49_0 loopM49_0) e49 fun ds hf _ => ?_
  obtain ⟨x, rfl, hx⟩ := fits1 hf.flat
  obtain ⟨s, rfl, hs⟩ := wf_str hx
  have hlen : (s.data.toList.map fun b => [D.i (b.toNat : Int)]).length = s.size := by simp
  have hpre : prLab [.i 0, .l (s.data.toList.map fun b => [D.i (b.toNat : Int)]), .i (s.size : Int), .i 0] := ⟨.i 0, _, 0, by rw [hlen]; rfl, by omega, by rw [hlen]; exact hs⟩
  have hany : anyN (fun j => decide (cI (el (s.data.toList.map fun b => [D.i (b.toNat : Int)]) j) 0 < 32) || decide (126 < cI (el (s.data.toList.map fun b => [D.i (b.toNat : Int)]) j) 0)) s.size = anyN (lblP s) s.size := anyN_congr fun k hk => by
    rw [byte_row s hk]; rfl
  by_cases h : 32 < (s.size : Int)
  · simp (disch := omega) only [vt49, VT.ok, X.ds, X.d, Op1.ev, Op2.ev, List.getD_cons_zero, D.int_i, D.bool_b, D.str_s, F49, ↓reduceIte, dlt_t, labelD, labelE, cS, if_pos h]
  · simp (disch := omega) only [vt49, VT.ok, Nd.holds, X.outs, X.ds, X.d, Op1.ev, Op2.ev, List.cons_append, List.nil_append, List.getD_cons_zero, List.getD_cons_succ, D.int_i, D.bool_b, D.lst_l, D.str_s, Bool.false_eq_true, F14900, R14900, F49, ↓reduceIte, dlt_f, labelD, labelE, cS, hlen, if_neg h]
    refine ⟨fun _ => hpre, ?_⟩
    simp only [lpLab, hlen, Int.toNat_zero, Nat.sub_zero]
    rcases scan_two (p := fun j => decide (cI (el (s.data.toList.map fun b => [D.i (b.toNat : Int)]) j) 0 < 32) || decide (126 < cI (el (s.data.toList.map fun b => [D.i (b.toNat : Int)]) j) 0)) s.size with ⟨h1, j, _, _, _, h⟩ | ⟨h1, h⟩
    · rw [hany] at h1
      simp only [h, plainB, h1]; rfl
    · rw [hany] at h1
      simp only [h, plainB, h1]; rfl
theorem loopM56_0 : LoopMeets Try.prog F (R L56_0.key) L56_0 lb56_0 := by
  refine loop_meets (pre := R) mixed (sgAt_all (P := Try.prog) (pre := R) (Φ := F) (l := sg56) ((fun _ h => nomatch h))) (loops_n 0 lk56_0 fun k hk => by omega) L56_0 (fun ρ => (((ρ.getD 0 default).str.size : Int) - (ρ.getD 2 default).int).toNat) le56_0 fun ρ _ hq => ?_
  obtain ⟨s, v, j, rfl, hj, hm⟩ : prPlain ρ := hq
  rw [maxLen_val] at hm
  by_cases hlt : j < s.size
  · simp (disch := omega) only [rt56_0, VT.ok, Nd.holds, X.ds, X.d, Op1.ev, Op2.ev, List.getD_cons_zero, List.getD_cons_succ, D.int_i, D.bool_b, D.str_s, ite_b, ite_or, Int.toNat_natCast, implies_true, true_and, ↓reduceIte, dle_t, dlt_t, w64']
    show if lblP s j = true then _ else _
    cases hb : lblP s j
    · simp only [Bool.false_eq_true, if_false]
      refine round_next ⟨⟨s, v, j + 1, rfl, by omega, hm⟩, ?_, ?_⟩
      · show ((s.size : Int) - ((j + 1 : Nat) : Int)).toNat < ((s.size : Int) - (j : Int)).toNat
        omega
      · show lpPlain [.s s, v, .i ((j + 1 : Nat) : Int)] = lpPlain [.s s, v, .i (j : Int)]
        simp only [lpPlain, Int.toNat_natCast]
        exact scan_next hlt hb
    · simp only [if_true]
      refine round_exit (by omega) ?_
      show lpPlain [.s s, v, .i (j : Int)] = _
      simp only [lpPlain, Int.toNat_natCast]
      exact scan_hit hlt hb
  · have hj' : j = s.size := by omega
    subst hj'
    simp (disch := omega) only [rt56_0, VT.ok, X.ds, X.d, Op1.ev, Op2.ev, List.getD_cons_zero, List.getD_cons_succ, D.int_i, D.bool_b, D.str_s, Bool.false_eq_true, ↓reduceIte, dlt_f]
    refine round_exit (by omega) ?_
    show lpPlain [.s s, v, .i (s.size : Int)] = _
    simp only [lpPlain, Int.toNat_natCast]
    exact scan_end
theorem m56 : Meets Try.prog 56 S56 (R 56) (F 56) := by
  refine meets_of_vt (pre := R) (Φ := F) mixed (sgAt_all (P := Try.prog) (pre := R) (Φ := F) (l := sg56) ((fun _ h => nomatch h))) Try.func56 b56 n56 (loops_n 1 k56 fun k hk => match k, hk with | 0, _ => loop_this lf56_0 loopM56_0) e56 fun ds hf _ => ?_
  obtain ⟨x, rfl, hx⟩ := fits1 hf.flat
  obtain ⟨s, rfl, hs⟩ := wf_str hx
  have hpre : prPlain [.s s, .b false, .i 0] := ⟨s, _, 0, rfl, by omega, hs⟩
  simp (disch := omega) only [vt56, VT.ok, Nd.holds, X.outs, X.ds, X.d, Op2.ev, List.cons_append, List.nil_append, List.getD_cons_zero, List.getD_cons_succ, D.int_i, D.bool_b, D.str_s, F15600, R15600, F56, plainD, cS]
  refine ⟨fun _ => hpre, ?_⟩
  simp only [lpPlain, Int.toNat_zero, Nat.sub_zero]
  rcases scan_two (p := lblP s) s.size with ⟨h1, j, _, _, _, h⟩ | ⟨h1, h⟩
  · simp only [h, plainB, h1]; rfl
  · simp only [h, plainB, h1]; rfl
theorem fn50_eq (ds : List D) : fn50 ds = sizedD ds := by
  show [if decide (1 ≤ cI ds 0) = true then D.b (decide (cI ds 0 ≤ 1048576)) else D.b false] = _
  simp only [ite_b, ite_and]
  rfl
end Go.Proofs.Ytjdhicmkkmfcgaa.rv
