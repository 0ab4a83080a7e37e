/-
  Graphs: names and labels.; Graphs: library functions.; Graphs: names' places, ports, nodes.; Graphs: nodes.; Graphs: clusters around a cluster; clusters; edges.; Graphs: what is valid.
-/
import Derived.Test.YtindllmeeckfcaaZCompoundPlacesL
namespace Go.Proofs.Ytindllmeeckfcaa.rv
set_option maxRecDepth 10000
open Go.RV
theorem kw6 (a b c d e f : Bool) : (if a = true then [D.b true] else if b = true then [D.b true] else if c = true then [D.b true] else if d = true then [D.b true] else if e = true then [D.b true] else if f = true then [D.b true] else [D.b false]) = [D.b (a || (b || (c || (d || (e || f)))))] := by
  cases a <;> cases b <;> cases c <;> cases d <;> cases e <;> cases f <;> rfl
theorem fn102_eq (ds : List D) : fn102 ds = letD ds := by
  show vt102.val T102 ds = _
  show [if (if (if decide (97 ≤ cI ds 0) = true then D.b (decide (cI ds 0 ≤ 122)) else D.b false).bool = true then D.b true else (if decide (65 ≤ cI ds 0) = true then D.b (decide (cI ds 0 ≤ 90)) else D.b false)).bool = true then D.b true else D.b (cI ds 0 == 95)] = _
  simp only [ite_b, D.bool_b, ite_and, ite_or]
  rfl
theorem fn103_eq (ds : List D) : fn103 ds = digD ds := by
  show vt103.val T103 ds = _
  show [if decide (48 ≤ cI ds 0) = true then D.b (decide (cI ds 0 ≤ 57)) else D.b false] = _
  simp only [ite_b, ite_and]
  rfl
theorem fn80_eq (ds : List D) : fn80 ds = kwD ds := by
  exact kw6 _ _ _ _ _ _
theorem loopM79_0 : LoopMeets Try.prog F (R L79_0.key) L79_0 lb79_0 := by
  refine loop_meets (pre := R) mixed (sgAt_all (P := Try.prog) (pre := R) (Φ := F) (l := sg79) (fcm ⟨m102, fcm ⟨m103, (fun _ h => nomatch h)⟩⟩)) (loops_n 0 lk79_0 fun k hk => by omega) L79_0 (fun ρ => (((ρ.getD 0 default).str.size : Int) - (ρ.getD 1 default).int).toNat) le79_0 fun ρ _ hq => ?_
  obtain ⟨s, j, rfl, hj, hm⟩ : prWord ρ := hq
  rw [maxLen_val] at hm
  by_cases hlt : j < s.size
  · simp (disch := omega) only [rt79_0, VT.ok, Nd.holds, X.outs, X.ds, X.d, Op1.ev, Op2.ev, takeD_zero, takeD_cons, List.cons_append, List.nil_append, List.getD_cons_zero, List.getD_cons_succ, D.int_i, D.bool_b, D.str_s, ite_b, ite_or, ite_and, Int.toNat_natCast, implies_true, true_and, F102, R102, F103, R103, ↓reduceIte, dle_t, dlt_t, w64', fn102_eq, fn103_eq, letD, digD, cI, Int.toNat_natCast]
    have hN : wordP s j = false → RoundOk F (R L79_0.key) (fun ρ => (((ρ.getD 0 default).str.size : Int) - (ρ.getD 1 default).int).toNat) L79_0 [.s s, .i (j : Int)] [.i (-1), .i ((j + 1 : Nat) : Int)] := fun hb => by
      refine round_next ⟨⟨s, j + 1, rfl, by omega, hm⟩, ?_, ?_⟩
      · show ((s.size : Int) - ((j + 1 : Nat) : Int)).toNat < ((s.size : Int) - (j : Int)).toNat
        omega
      · show lpWord [.s s, .i ((j + 1 : Nat) : Int)] = lpWord [.s s, .i (j : Int)]
        simp only [lpWord, Int.toNat_natCast]
        exact scan_next hlt hb
    have hX : wordP s j = true → RoundOk F (R L79_0.key) (fun ρ => (((ρ.getD 0 default).str.size : Int) - (ρ.getD 1 default).int).toNat) L79_0 [.s s, .i (j : Int)] [.i 0, .i (j : Int)] := fun hb => by
      refine round_exit (by omega) ?_
      show lpWord [.s s, .i (j : Int)] = _
      simp only [lpWord, Int.toNat_natCast]
      exact scan_hit hlt hb
    have e : wordP s j = !(letB (bt s j) || (decide (0 < (j : Int)) && digB (bt s j))) := rfl
    cases hb : letB (bt s j)
    · cases hb2 : (decide (0 < (j : Int)) && digB (bt s j))
      · rw [hb, hb2] at e
        show if (letB (bt s j) || (decide (0 < (j : Int)) && digB (bt s j))) = true then _ else _
        rw [hb, hb2]
        exact hX e
      · rw [hb, hb2] at e
        show if (letB (bt s j) || (decide (0 < (j : Int)) && digB (bt s j))) = true then _ else _
        rw [hb, hb2]
        exact hN e
    · rw [hb] at e
      show if (letB (bt s j) || (decide (0 < (j : Int)) && digB (bt s j))) = true then _ else _
      rw [hb]
      exact hN e
  · have hj' : j = s.size := by omega
    subst hj'
    simp (disch := omega) only [rt79_0, VT.ok, Nd.holds, X.outs, X.ds, X.d, Op1.ev, Op2.ev, List.cons_append, List.nil_append, List.getD_cons_zero, List.getD_cons_succ, D.int_i, D.bool_b, D.str_s, Int.toNat_natCast, Bool.false_eq_true, implies_true, true_and, false_implies, ↓reduceIte, dle_t, dlt_f]
    refine round_exit (by omega) ?_
    show lpWord [.s s, .i (s.size : Int)] = _
    simp only [lpWord, Int.toNat_natCast]
    exact scan_end
theorem m79 : Meets Try.prog 79 S79 (R 79) (F 79) := by
  refine meets_of_vt (pre := R) (Φ := F) mixed (sgAt_all (P := Try.prog) (pre := R) (Φ := F) (l := sg79) (fcm ⟨m102, fcm ⟨m103, (fun _ h => nomatch h)⟩⟩)) Try.func79 b79 n79 (loops_n 1 k79 fun k hk => match k, hk with | 0, _ => loop_this lf79_0 loopM79_0) e79 fun ds hf _ => ?_
  obtain ⟨x, rfl, hx⟩ := fits1 hf.flat
  obtain ⟨s, rfl, hs⟩ := wf_str hx
  have hpre : prWord [.s s, .i 0] := ⟨s, 0, rfl, by omega, hs⟩
  simp only [vt79, VT.ok, Nd.holds, X.outs, X.ds, X.d, List.cons_append, List.nil_append, List.getD_cons_zero, List.getD_cons_succ, D.bool_b, F17900, R17900, F79]
  refine ⟨fun _ => hpre, ?_⟩
  simp only [lpWord, Int.toNat_zero, Nat.sub_zero, scan_fs, wordD, cS, List.getD_cons_zero, D.str_s]
  by_cases h : fs (wordP s) s.size < s.size
  · rw [if_pos h]; rfl
  · have := fs_le (wordP s) s.size
    rw [if_neg h, show fs (wordP s) s.size = s.size by omega]; rfl
theorem fn109_eq (ds : List D) : fn109 ds = letD ds := by
  show vt109.val T109 ds = _
  show [if (if (if decide (97 ≤ cI ds 0) = true then D.b (decide (cI ds 0 ≤ 122)) else D.b false).bool = true then D.b true else (if decide (65 ≤ cI ds 0) = true then D.b (decide (cI ds 0 ≤ 90)) else D.b false)).bool = true then D.b true else D.b (cI ds 0 == 95)] = _
  simp only [ite_b, D.bool_b, ite_and, ite_or]
  rfl
theorem fn110_eq (ds : List D) : fn110 ds = digD ds := by
  show vt110.val T110 ds = _
  show [if decide (48 ≤ cI ds 0) = true then D.b (decide (cI ds 0 ≤ 57)) else D.b false] = _
  simp only [ite_b, ite_and]
  rfl
theorem fn92_eq (ds : List D) : fn92 ds = kwD ds := by
  exact kw6 _ _ _ _ _ _
theorem loopM91_0 : LoopMeets Try.prog F (R L91_0.key) L91_0 lb91_0 := by
  refine loop_meets (pre := R) mixed (sgAt_all (P := Try.prog) (pre := R) (Φ := F) (l := sg91) (fcm ⟨m109, fcm ⟨m110, (fun _ h => nomatch h)⟩⟩)) (loops_n 0 lk91_0 fun k hk => by omega) L91_0 (fun ρ => (((ρ.getD 0 default).str.size : Int) - (ρ.getD 1 default).int).toNat) le91_0 fun ρ _ hq => ?_
  obtain ⟨s, j, rfl, hj, hm⟩ : prWord ρ := hq
  rw [maxLen_val] at hm
  by_cases hlt : j < s.size
  · simp (disch := omega) only [rt91_0, VT.ok, Nd.holds, X.outs, X.ds, X.d, Op1.ev, Op2.ev, takeD_zero, takeD_cons, List.cons_append, List.nil_append, List.getD_cons_zero, List.getD_cons_succ, D.int_i, D.bool_b, D.str_s, ite_b, ite_or, ite_and, Int.toNat_natCast, implies_true, true_and, F109, R109, F110, R110, ↓reduceIte, dle_t, dlt_t, w64', fn109_eq, fn110_eq, letD, digD, cI, Int.toNat_natCast]
    have hN : wordP s j = false → RoundOk F (R L91_0.key) (fun ρ => (((ρ.getD 0 default).str.size : Int) - (ρ.getD 1 default).int).toNat) L91_0 [.s s, .i (j : Int)] [.i (-1), .i ((j + 1 : Nat) : Int)] := fun hb => by
      refine round_next ⟨⟨s, j + 1, rfl, by omega, hm⟩, ?_, ?_⟩
      · show ((s.size : Int) - ((j + 1 : Nat) : Int)).toNat < ((s.size : Int) - (j : Int)).toNat
        omega
      · show lpWord [.s s, .i ((j + 1 : Nat) : Int)] = lpWord [.s s, .i (j : Int)]
        simp only [lpWord, Int.toNat_natCast]
        exact scan_next hlt hb
    have hX : wordP s j = true → RoundOk F (R L91_0.key) (fun ρ => (((ρ.getD 0 default).str.size : Int) - (ρ.getD 1 default).int).toNat) L91_0 [.s s, .i (j : Int)] [.i 0, .i (j : Int)] := fun hb => by
      refine round_exit (by omega) ?_
      show lpWord [.s s, .i (j : Int)] = _
      simp only [lpWord, Int.toNat_natCast]
      exact scan_hit hlt hb
    have e : wordP s j = !(letB (bt s j) || (decide (0 < (j : Int)) && digB (bt s j))) := rfl
    cases hb : letB (bt s j)
    · cases hb2 : (decide (0 < (j : Int)) && digB (bt s j))
      · rw [hb, hb2] at e
        show if (letB (bt s j) || (decide (0 < (j : Int)) && digB (bt s j))) = true then _ else _
        rw [hb, hb2]
        exact hX e
      · rw [hb, hb2] at e
        show if (letB (bt s j) || (decide (0 < (j : Int)) && digB (bt s j))) = true then _ else _
        rw [hb, hb2]
        exact hN e
    · rw [hb] at e
      show if (letB (bt s j) || (decide (0 < (j : Int)) && digB (bt s j))) = true then _ else _
      rw [hb]
      exact hN e
  · have hj' : j = s.size := by omega
    subst hj'
    simp (disch := omega) only [rt91_0, VT.ok, Nd.holds, X.outs, X.ds, X.d, Op1.ev, Op2.ev, List.cons_append, List.nil_append, List.getD_cons_zero, List.getD_cons_succ, D.int_i, D.bool_b, D.str_s, Int.toNat_natCast, Bool.false_eq_true, implies_true, true_and, false_implies, ↓reduceIte, dle_t, dlt_f]
    refine round_exit (by omega) ?_
    show lpWord [.s s, .i (s.size : Int)] = _
    simp only [lpWord, Int.toNat_natCast]
    exact scan_end
theorem m91 : Meets Try.prog 91 S91 (R 91) (F 91) := by
  refine meets_of_vt (pre := R) (Φ := F) mixed (sgAt_all (P := Try.prog) (pre := R) (Φ := F) (l := sg91) (fcm ⟨m109, fcm ⟨m110, (fun _ h => nomatch h)⟩⟩)) Try.func91 b91 n91 (loops_n 1 k91 fun k hk => match k, hk with | 0, _ => loop_this lf91_0 loopM91_0) e91 fun ds hf _ => ?_
  obtain ⟨x, rfl, hx⟩ := fits1 hf.flat
  obtain ⟨s, rfl, hs⟩ := wf_str hx
  have hpre : prWord [.s s, .i 0] := ⟨s, 0, rfl, by omega, hs⟩
  simp only [vt91, VT.ok, Nd.holds, X.outs, X.ds, X.d, List.cons_append, List.nil_append, List.getD_cons_zero, List.getD_cons_succ, D.bool_b, F19100, R19100, F91]
  refine ⟨fun _ => hpre, ?_⟩
  simp only [lpWord, Int.toNat_zero, Nat.sub_zero, scan_fs, wordD, cS, List.getD_cons_zero, D.str_s]
  by_cases h : fs (wordP s) s.size < s.size
  · rw [if_pos h]; rfl
  · have := fs_le (wordP s) s.size
    rw [if_neg h, show fs (wordP s) s.size = s.size by omega]; rfl
theorem m52 : Meets Try.prog 52 S52 (R 52) (F 52) := by
  refine meets_of_vt (pre := R) (Φ := F) mixed (sgAt_all (P := Try.prog) (pre := R) (Φ := F) (l := sg52) (fcm ⟨m79, fcm ⟨m80, (fun _ h => nomatch h)⟩⟩)) Try.func52 b52 n52 (loops_n 0 k52 fun k hk => by omega) e52 fun ds hf _ => ?_
  obtain ⟨x, rfl, hx⟩ := fits1 hf.flat
  obtain ⟨s, rfl, hs⟩ := wf_str hx
  simp only [vt52, VT.ok, Nd.holds, X.outs, X.ds, X.d, Op1.ev, Op2.ev, takeD_zero, takeD_cons, List.cons_append, List.nil_append, List.getD_cons_zero, List.getD_cons_succ, D.int_i, D.bool_b, D.str_s, ite_b, ite_and, implies_true, and_true, F79, R79, F80, R80, F52, wordD, cS, fn80_eq, kwD, nameD, isName]
theorem m68 : Meets Try.prog 68 S68 (R 68) (F 68) := by
  refine meets_of_vt (pre := R) (Φ := F) mixed (sgAt_all (P := Try.prog) (pre := R) (Φ := F) (l := sg68) (fcm ⟨m91, fcm ⟨m92, (fun _ h => nomatch h)⟩⟩)) Try.func68 b68 n68 (loops_n 0 k68 fun k hk => by omega) e68 fun ds hf _ => ?_
  obtain ⟨x, rfl, hx⟩ := fits1 hf.flat
  obtain ⟨s, rfl, hs⟩ := wf_str hx
  simp only [vt68, VT.ok, Nd.holds, X.outs, X.ds, X.d, Op1.ev, Op2.ev, takeD_zero, takeD_cons, List.cons_append, List.nil_append, List.getD_cons_zero, List.getD_cons_succ, D.int_i, D.bool_b, D.str_s, ite_b, ite_and, implies_true, true_and, F91, R91, F92, R92, F68, wordD, cS, fn92_eq, kwD, nameD, isName]
  rw [Bool.and_right_comm (!(s == _))]
theorem byte_row (s : ByteArray) {j : Nat} (h : j < s.size) : cI (el (s.data.toList.map fun b => [D.i (b.toNat : Int)]) j) 0 = bt s j := by
  have hd : j < s.data.size := h
  have e : s[j]? = some s.data[j] := by
    rw [getElem?_pos s j h]; rfl
  simp only [el, cI, bt, List.getD, List.getElem?_map, Array.getElem?_toList, Array.getElem?_eq_getElem hd, Option.map_some, Option.getD_some, e, List.getElem?_cons_zero]
  rfl
theorem loopM82_0 : LoopMeets Try.prog F (R L82_0.key) L82_0 lb82_0 := by
  refine loop_meets (pre := R) mixed (sgAt_all (P := Try.prog) (pre := R) (Φ := F) (l := sg82) ((fun _ h => nomatch h))) (loops_n 0 lk82_0 fun k hk => by omega) L82_0 (fun ρ => ((ρ.getD 2 default).int - (ρ.getD 3 default).int).toNat) le82_0 fun ρ _ hq => ?_
  obtain ⟨v, bs, j, rfl, hj, hm⟩ : prLab ρ := hq
  rw [maxLen_val] at hm
  by_cases hlt : j < bs.length
  · simp (disch := omega) only [rt82_0, VT.ok, Nd.holds, X.ds, X.d, Op1.ev, Op2.ev, List.getD_cons_zero, List.getD_cons_succ, D.int_i, D.bool_b, D.lst_l, ite_b, ite_or, Int.toNat_natCast, implies_true, true_and, ↓reduceIte, dle_t, dlt_t, w64']
    show if (decide (cI (el bs j) 0 < 32) || decide (126 < cI (el bs j) 0)) = true then _ else _
    cases hb : (decide (cI (el bs j) 0 < 32) || decide (126 < cI (el bs j) 0))
    · simp only [Bool.false_eq_true, if_false]
      refine round_next ⟨⟨v, bs, j + 1, rfl, by omega, hm⟩, ?_, ?_⟩
      · show ((bs.length : Int) - ((j + 1 : Nat) : Int)).toNat < ((bs.length : Int) - (j : Int)).toNat
        omega
      · show lpLab [v, .l bs, .i (bs.length : Int), .i ((j + 1 : Nat) : Int)] = lpLab [v, .l bs, .i (bs.length : Int), .i (j : Int)]
        simp only [lpLab, Int.toNat_natCast]
        exact scan_next hlt hb
    · simp only [if_true]
      refine round_exit (by omega) ?_
      show lpLab [v, .l bs, .i (bs.length : Int), .i (j : Int)] = _
      simp only [lpLab, Int.toNat_natCast]
      exact scan_hit hlt hb
  · have hj' : j = bs.length := by omega
    subst hj'
    simp (disch := omega) only [rt82_0, VT.ok, X.ds, X.d, Op2.ev, List.getD_cons_zero, List.getD_cons_succ, D.int_i, D.bool_b, Bool.false_eq_true, ↓reduceIte, dlt_f]
    refine round_exit (by omega) ?_
    show lpLab [v, .l bs, .i (bs.length : Int), .i (bs.length : Int)] = _
    simp only [lpLab, Int.toNat_natCast]
    exact scan_end
theorem m82 : Meets Try.prog 82 S82 (R 82) (F 82) := by
  refine meets_of_vt (pre := R) (Φ := F) mixed (sgAt_all (P := Try.prog) (pre := R) (Φ := F) (l := sg82) ((fun _ h => nomatch h))) Try.func82 b82 n82 (loops_n 1 k82 fun k hk => match k, hk with | 0, _ => loop_this lf82_0 loopM82_0) e82 fun ds hf _ => ?_
  obtain ⟨x, rfl, hx⟩ := fits1 hf.flat
  obtain ⟨s, rfl, hs⟩ := wf_str hx
  have hlen : (s.data.toList.map fun b => [D.i (b.toNat : Int)]).length = s.size := by simp
  have hpre : prLab [.i 0, .l (s.data.toList.map fun b => [D.i (b.toNat : Int)]), .i (s.size : Int), .i 0] := ⟨.i 0, _, 0, by rw [hlen]; rfl, by omega, by rw [hlen]; exact hs⟩
  have hany : anyN (fun j => decide (cI (el (s.data.toList.map fun b => [D.i (b.toNat : Int)]) j) 0 < 32) || decide (126 < cI (el (s.data.toList.map fun b => [D.i (b.toNat : Int)]) j) 0)) s.size = anyN (lblP s) s.size := anyN_congr fun k hk => by
    rw [byte_row s hk]; rfl
  by_cases h : 32 < (s.size : Int)
  · simp (disch := omega) only [vt82, VT.ok, X.ds, X.d, Op1.ev, Op2.ev, List.getD_cons_zero, D.int_i, D.bool_b, D.str_s, F82, ↓reduceIte, dlt_t, labelD, labelE, cS, if_pos h]
  · simp (disch := omega) only [vt82, VT.ok, Nd.holds, X.outs, X.ds, X.d, Op1.ev, Op2.ev, List.cons_append, List.nil_append, List.getD_cons_zero, List.getD_cons_succ, D.int_i, D.bool_b, D.lst_l, D.str_s, Bool.false_eq_true, F18200, R18200, F82, ↓reduceIte, dlt_f, labelD, labelE, cS, hlen, if_neg h]
    refine ⟨fun _ => hpre, ?_⟩
    simp only [lpLab, hlen, Int.toNat_zero, Nat.sub_zero]
    rcases scan_two (p := fun j => decide (cI (el (s.data.toList.map fun b => [D.i (b.toNat : Int)]) j) 0 < 32) || decide (126 < cI (el (s.data.toList.map fun b => [D.i (b.toNat : Int)]) j) 0)) s.size with ⟨h1, j, _, _, _, h⟩ | ⟨h1, h⟩
    · rw [hany] at h1
      simp only [h, plainB, h1]; rfl
    · rw [hany] at h1
      simp only [h, plainB, h1]; rfl
theorem loopM94_0 : LoopMeets Try.prog F (R L94_0.key) L94_0 lb94_0 := by
  refine loop_meets (pre := R) mixed (sgAt_all (P := Try.prog) (pre := R) (Φ := F) (l := sg94) ((fun _ h => nomatch h))) (loops_n 0 lk94_0 fun k hk => by omega) L94_0 (fun ρ => (((ρ.getD 0 default).str.size : Int) - (ρ.getD 2 default).int).toNat) le94_0 fun ρ _ hq => ?_
  obtain ⟨s, v, j, rfl, hj, hm⟩ : prPlain ρ := hq
  rw [maxLen_val] at hm
  by_cases hlt : j < s.size
  · simp (disch := omega) only [rt94_0, VT.ok, Nd.holds, X.ds, X.d, Op1.ev, Op2.ev, List.getD_cons_zero, List.getD_cons_succ, D.int_i, D.bool_b, D.str_s, ite_b, ite_or, Int.toNat_natCast, implies_true, true_and, ↓reduceIte, dle_t, dlt_t, w64']
    show if lblP s j = true then _ else _
    cases hb : lblP s j
    · simp only [Bool.false_eq_true, if_false]
      refine round_next ⟨⟨s, v, j + 1, rfl, by omega, hm⟩, ?_, ?_⟩
      · show ((s.size : Int) - ((j + 1 : Nat) : Int)).toNat < ((s.size : Int) - (j : Int)).toNat
        omega
      · show lpPlain [.s s, v, .i ((j + 1 : Nat) : Int)] = lpPlain [.s s, v, .i (j : Int)]
        simp only [lpPlain, Int.toNat_natCast]
        exact scan_next hlt hb
    · simp only [if_true]
      refine round_exit (by omega) ?_
      show lpPlain [.s s, v, .i (j : Int)] = _
      simp only [lpPlain, Int.toNat_natCast]
      exact scan_hit hlt hb
  · have hj' : j = s.size := by omega
    subst hj'
    simp (disch := omega) only [rt94_0, VT.ok, X.ds, X.d, Op1.ev, Op2.ev, List.getD_cons_zero, List.getD_cons_succ, D.int_i, D.bool_b, D.str_s, Bool.false_eq_true, ↓reduceIte, dlt_f]
    refine round_exit (by omega) ?_
    show lpPlain [.s s, v, .i (s.size : Int)] = _
    simp only [lpPlain, Int.toNat_natCast]
    exact scan_end
theorem m94 : Meets Try.prog 94 S94 (R 94) (F 94) := by
  refine meets_of_vt (pre := R) (Φ := F) mixed (sgAt_all (P := Try.prog) (pre := R) (Φ := F) (l := sg94) ((fun _ h => nomatch h))) Try.func94 b94 n94 (loops_n 1 k94 fun k hk => match k, hk with | 0, _ => loop_this lf94_0 loopM94_0) e94 fun ds hf _ => ?_
  obtain ⟨x, rfl, hx⟩ := fits1 hf.flat
  obtain ⟨s, rfl, hs⟩ := wf_str hx
  have hpre : prPlain [.s s, .b false, .i 0] := ⟨s, _, 0, rfl, by omega, hs⟩
  simp (disch := omega) only [vt94, VT.ok, Nd.holds, X.outs, X.ds, X.d, Op2.ev, List.cons_append, List.nil_append, List.getD_cons_zero, List.getD_cons_succ, D.int_i, D.bool_b, D.str_s, F19400, R19400, F94, plainD, cS]
  refine ⟨fun _ => hpre, ?_⟩
  simp only [lpPlain, Int.toNat_zero, Nat.sub_zero]
  rcases scan_two (p := lblP s) s.size with ⟨h1, j, _, _, _, h⟩ | ⟨h1, h⟩
  · simp only [h, plainB, h1]; rfl
  · simp only [h, plainB, h1]; rfl
theorem fn83_eq (ds : List D) : fn83 ds = sizedD ds := by
  show [if decide (1 ≤ cI ds 0) = true then D.b (decide (cI ds 0 ≤ 1048576)) else D.b false] = _
  simp only [ite_b, ite_and]
  rfl
end Go.Proofs.Ytindllmeeckfcaa.rv
namespace Go.Proofs.Ytindllmeeckfcaa.rv
set_option maxRecDepth 10000
open Go.RV
theorem fn105_eq (ds cap : List D) (h : ds.length = 6) (h' : cap.length = 1) : fn105 (ds ++ [.p cap]) = dyNm (.c 105 [.pt [.str]] [.p cap] :: ds) := by
  match ds, h, cap, h' with
  | [a0, a1, a2, a3, a4, a5], _, [b0], _ => rfl
theorem m20039 : Meets Try.prog 20039 S20039 (R 20039) (F 20039) := by
  refine meets_dyn (by decide) rfl fun d ds hf hp => ?_
  obtain ⟨cap, bs, e, hc, ha⟩ : dpNm 105 [.str] 1 6 (d :: ds) := hp
  cases e
  exact ⟨105, [.pt [.str]], [.p cap], S105, _, fn105, rfl, by decide, m105, rfl, rfl, trivial, fn105_eq _ cap ha hc⟩
theorem fn107_eq (ds cap : List D) (h : ds.length = 2) (h' : cap.length = 2) : fn107 (ds ++ [.p cap]) = dyNm (.c 107 [.pt [.str, .int .i64]] [.p cap] :: ds) := by
  match ds, h, cap, h' with
  | [a0, a1], _, [b0, b1], _ => rfl
theorem m20054 : Meets Try.prog 20054 S20054 (R 20054) (F 20054) := by
  refine meets_dyn (by decide) rfl fun d ds hf hp => ?_
  obtain ⟨cap, bs, e, hc, ha⟩ : dpNm 107 [.str, .int .i64] 2 2 (d :: ds) := hp
  cases e
  exact ⟨107, [.pt [.str, .int .i64]], [.p cap], S107, _, fn107, rfl, by decide, m107, rfl, rfl, trivial, fn107_eq _ cap ha hc⟩
theorem fn86_eq (ds cap : List D) (h : ds.length = 2) (h' : cap.length = 2) : fn86 (ds ++ [.p cap]) = dyNm (.c 86 [.pt [.str, .int .i64]] [.p cap] :: ds) := by
  match ds, h, cap, h' with
  | [a0, a1], _, [b0, b1], _ => rfl
theorem m20051 : Meets Try.prog 20051 S20051 (R 20051) (F 20051) := by
  refine meets_dyn (by decide) rfl fun d ds hf hp => ?_
  obtain ⟨cap, bs, e, hc, ha⟩ : dpNm 86 [.str, .int .i64] 2 2 (d :: ds) := hp
  cases e
  exact ⟨86, [.pt [.str, .int .i64]], [.p cap], S86, _, fn86, rfl, by decide, m86, rfl, rfl, trivial, fn86_eq _ cap ha hc⟩
theorem loopM104_0 : LoopMeets Try.prog F (R L104_0.key) L104_0 lb104_0 := by
  refine loop_meets (pre := R) mixed (sgAt_all (P := Try.prog) (pre := R) (Φ := F) (l := sg104) (fcm ⟨m20039, (fun _ h => nomatch h)⟩)) (loops_n 0 lk104_0 fun k hk => by omega) L104_0 (fun ρ => ((ρ.getD 3 default).int - (ρ.getD 4 default).int).toNat) le104_0 fun ρ _ hq => ?_
  obtain ⟨xs, c, v, j, rfl, hj, hm, hp⟩ : ixPr (dpNm 105 [.str] 1 6) 6 ρ := hq
  rw [maxLen_val] at hm
  by_cases hlt : j < xs.length
  · simp (disch := omega) only [rt104_0, VT.ok, Nd.holds, X.outs, X.ds, X.d, Op1.ev, Op2.ev, List.cons_append, List.nil_append, List.getD_cons_zero, List.getD_cons_succ, D.int_i, D.bool_b, D.lst_l, Int.toNat_natCast, implies_true, true_and, takeD1_0, F20039, R20039, ↓reduceIte, dle_t, dlt_t, w64']
    refine ⟨fun _ => hp j hlt, ?_⟩
    show if ((dyNm (c :: cellsN 6 (el xs j))).getD 0 default).bool = true then _ else _
    cases hb : ((dyNm (c :: cellsN 6 (el xs j))).getD 0 default).bool
    · simp only [Bool.false_eq_true, if_false]
      refine round_next ⟨⟨xs, c, v, j + 1, rfl, by omega, hm, hp⟩, ?_, ?_⟩
      · show ((xs.length : Int) - ((j + 1 : Nat) : Int)).toNat < ((xs.length : Int) - (j : Int)).toNat
        omega
      · show ixLp dyNm 6 [.l xs, c, v, .i (xs.length : Int), .i ((j + 1 : Nat) : Int)] = ixLp dyNm 6 [.l xs, c, v, .i (xs.length : Int), .i (j : Int)]
        simp only [ixLp, Int.toNat_natCast]
        exact scan_next hlt hb
    · simp only [if_true]
      refine round_exit (by omega) ?_
      show ixLp dyNm 6 [.l xs, c, v, .i (xs.length : Int), .i (j : Int)] = _
      simp only [ixLp, Int.toNat_natCast]
      exact scan_hit hlt hb
  · have hj' : j = xs.length := by omega
    subst hj'
    simp (disch := omega) only [rt104_0, VT.ok, X.ds, X.d, Op2.ev, List.getD_cons_zero, List.getD_cons_succ, D.int_i, D.bool_b, Bool.false_eq_true, ↓reduceIte, dlt_f]
    refine round_exit (by omega) ?_
    show ixLp dyNm 6 [.l xs, c, v, .i (xs.length : Int), .i (xs.length : Int)] = _
    simp only [ixLp, Int.toNat_natCast]
    exact scan_end
theorem m104 : Meets Try.prog 104 S104 (R 104) (F 104) := by
  refine meets_of_vt (pre := R) (Φ := F) mixed (sgAt_all (P := Try.prog) (pre := R) (Φ := F) (l := sg104) (fcm ⟨m20039, (fun _ h => nomatch h)⟩)) Try.func104 b104 n104 (loops_n 1 k104 fun k hk => match k, hk with | 0, _ => loop_this lf104_0 loopM104_0) e104 fun ds hf hq => ?_
  obtain ⟨x, c, rfl, hx, _⟩ := fits2 hf.flat
  obtain ⟨xs, rfl, hm, _⟩ := wf_sl hx
  have hq : ∀ i, i < xs.length → (dpNm 105 [.str] 1 6) (c :: cellsN 6 (el xs i)) := hq
  have hpre : ixPr (dpNm 105 [.str] 1 6) 6 [.l xs, c, .i 0, .i (xs.length : Int), .i 0] := ⟨xs, c, .i 0, 0, rfl, by omega, hm, hq⟩
  simp only [vt104, VT.ok, Nd.holds, X.outs, X.ds, X.d, Op1.ev, Op2.ev, List.cons_append, List.nil_append, List.getD_cons_zero, List.getD_cons_succ, D.int_i, D.bool_b, D.lst_l, F20400, R20400, F104]
  refine ⟨fun _ => hpre, ?_⟩
  simp only [ixLp, ixFn, Int.toNat_zero, Nat.sub_zero, scan_fs, ixI, cL, List.getD_cons_zero, List.getD_cons_succ, D.lst_l]
  split <;> rfl
theorem loopM111_0 : LoopMeets Try.prog F (R L111_0.key) L111_0 lb111_0 := by
  refine loop_meets (pre := R) mixed (sgAt_all (P := Try.prog) (pre := R) (Φ := F) (l := sg111) (fcm ⟨m20054, (fun _ h => nomatch h)⟩)) (loops_n 0 lk111_0 fun k hk => by omega) L111_0 (fun ρ => ((ρ.getD 3 default).int - (ρ.getD 4 default).int).toNat) le111_0 fun ρ _ hq => ?_
  obtain ⟨xs, c, v, j, rfl, hj, hm, hp⟩ : ixPr (dpNm 107 [.str, .int .i64] 2 2) 2 ρ := hq
  rw [maxLen_val] at hm
  by_cases hlt : j < xs.length
  · simp (disch := omega) only [rt111_0, VT.ok, Nd.holds, X.outs, X.ds, X.d, Op1.ev, Op2.ev, List.cons_append, List.nil_append, List.getD_cons_zero, List.getD_cons_succ, D.int_i, D.bool_b, D.lst_l, Int.toNat_natCast, implies_true, true_and, takeD1_0, F20054, R20054, ↓reduceIte, dle_t, dlt_t, w64']
    refine ⟨fun _ => hp j hlt, ?_⟩
    show if ((dyNm (c :: cellsN 2 (el xs j))).getD 0 default).bool = true then _ else _
    cases hb : ((dyNm (c :: cellsN 2 (el xs j))).getD 0 default).bool
    · simp only [Bool.false_eq_true, if_false]
      refine round_next ⟨⟨xs, c, v, j + 1, rfl, by omega, hm, hp⟩, ?_, ?_⟩
      · show ((xs.length : Int) - ((j + 1 : Nat) : Int)).toNat < ((xs.length : Int) - (j : Int)).toNat
        omega
      · show ixLp dyNm 2 [.l xs, c, v, .i (xs.length : Int), .i ((j + 1 : Nat) : Int)] = ixLp dyNm 2 [.l xs, c, v, .i (xs.length : Int), .i (j : Int)]
        simp only [ixLp, Int.toNat_natCast]
        exact scan_next hlt hb
    · simp only [if_true]
      refine round_exit (by omega) ?_
      show ixLp dyNm 2 [.l xs, c, v, .i (xs.length : Int), .i (j : Int)] = _
      simp only [ixLp, Int.toNat_natCast]
      exact scan_hit hlt hb
  · have hj' : j = xs.length := by omega
    subst hj'
    simp (disch := omega) only [rt111_0, VT.ok, X.ds, X.d, Op2.ev, List.getD_cons_zero, List.getD_cons_succ, D.int_i, D.bool_b, Bool.false_eq_true, ↓reduceIte, dlt_f]
    refine round_exit (by omega) ?_
    show ixLp dyNm 2 [.l xs, c, v, .i (xs.length : Int), .i (xs.length : Int)] = _
    simp only [ixLp, Int.toNat_natCast]
    exact scan_end
theorem m111 : Meets Try.prog 111 S111 (R 111) (F 111) := by
  refine meets_of_vt (pre := R) (Φ := F) mixed (sgAt_all (P := Try.prog) (pre := R) (Φ := F) (l := sg111) (fcm ⟨m20054, (fun _ h => nomatch h)⟩)) Try.func111 b111 n111 (loops_n 1 k111 fun k hk => match k, hk with | 0, _ => loop_this lf111_0 loopM111_0) e111 fun ds hf hq => ?_
  obtain ⟨x, c, rfl, hx, _⟩ := fits2 hf.flat
  obtain ⟨xs, rfl, hm, _⟩ := wf_sl hx
  have hq : ∀ i, i < xs.length → (dpNm 107 [.str, .int .i64] 2 2) (c :: cellsN 2 (el xs i)) := hq
  have hpre : ixPr (dpNm 107 [.str, .int .i64] 2 2) 2 [.l xs, c, .i 0, .i (xs.length : Int), .i 0] := ⟨xs, c, .i 0, 0, rfl, by omega, hm, hq⟩
  simp only [vt111, VT.ok, Nd.holds, X.outs, X.ds, X.d, Op1.ev, Op2.ev, List.cons_append, List.nil_append, List.getD_cons_zero, List.getD_cons_succ, D.int_i, D.bool_b, D.lst_l, F21100, R21100, F111]
  refine ⟨fun _ => hpre, ?_⟩
  simp only [ixLp, ixFn, Int.toNat_zero, Nat.sub_zero, scan_fs, ixI, cL, List.getD_cons_zero, List.getD_cons_succ, D.lst_l]
  split <;> rfl
theorem loopM108_0 : LoopMeets Try.prog F (R L108_0.key) L108_0 lb108_0 := by
  refine loop_meets (pre := R) mixed (sgAt_all (P := Try.prog) (pre := R) (Φ := F) (l := sg108) (fcm ⟨m20051, (fun _ h => nomatch h)⟩)) (loops_n 0 lk108_0 fun k hk => by omega) L108_0 (fun ρ => ((ρ.getD 3 default).int - (ρ.getD 4 default).int).toNat) le108_0 fun ρ _ hq => ?_
  obtain ⟨xs, c, v, j, rfl, hj, hm, hp⟩ : ixPr (dpNm 86 [.str, .int .i64] 2 2) 2 ρ := hq
  rw [maxLen_val] at hm
  by_cases hlt : j < xs.length
  · simp (disch := omega) only [rt108_0, VT.ok, Nd.holds, X.outs, X.ds, X.d, Op1.ev, Op2.ev, List.cons_append, List.nil_append, List.getD_cons_zero, List.getD_cons_succ, D.int_i, D.bool_b, D.lst_l, Int.toNat_natCast, implies_true, true_and, takeD1_0, F20051, R20051, ↓reduceIte, dle_t, dlt_t, w64']
    refine ⟨fun _ => hp j hlt, ?_⟩
    show if ((dyNm (c :: cellsN 2 (el xs j))).getD 0 default).bool = true then _ else _
    cases hb : ((dyNm (c :: cellsN 2 (el xs j))).getD 0 default).bool
    · simp only [Bool.false_eq_true, if_false]
      refine round_next ⟨⟨xs, c, v, j + 1, rfl, by omega, hm, hp⟩, ?_, ?_⟩
      · show ((xs.length : Int) - ((j + 1 : Nat) : Int)).toNat < ((xs.length : Int) - (j : Int)).toNat
        omega
      · show ixLp dyNm 2 [.l xs, c, v, .i (xs.length : Int), .i ((j + 1 : Nat) : Int)] = ixLp dyNm 2 [.l xs, c, v, .i (xs.length : Int), .i (j : Int)]
        simp only [ixLp, Int.toNat_natCast]
        exact scan_next hlt hb
    · simp only [if_true]
      refine round_exit (by omega) ?_
      show ixLp dyNm 2 [.l xs, c, v, .i (xs.length : Int), .i (j : Int)] = _
      simp only [ixLp, Int.toNat_natCast]
      exact scan_hit hlt hb
  · have hj' : j = xs.length := by omega
    subst hj'
    simp (disch := omega) only [rt108_0, VT.ok, X.ds, X.d, Op2.ev, List.getD_cons_zero, List.getD_cons_succ, D.int_i, D.bool_b, Bool.false_eq_true, ↓reduceIte, dlt_f]
    refine round_exit (by omega) ?_
    show ixLp dyNm 2 [.l xs, c, v, .i (xs.length : Int), .i (xs.length : Int)] = _
    simp only [ixLp, Int.toNat_natCast]
    exact scan_end
theorem m108 : Meets Try.prog 108 S108 (R 108) (F 108) := by
  refine meets_of_vt (pre := R) (Φ := F) mixed (sgAt_all (P := Try.prog) (pre := R) (Φ := F) (l := sg108) (fcm ⟨m20051, (fun _ h => nomatch h)⟩)) Try.func108 b108 n108 (loops_n 1 k108 fun k hk => match k, hk with | 0, _ => loop_this lf108_0 loopM108_0) e108 fun ds hf hq => ?_
  obtain ⟨x, c, rfl, hx, _⟩ := fits2 hf.flat
  obtain ⟨xs, rfl, hm, _⟩ := wf_sl hx
  have hq : ∀ i, i < xs.length → (dpNm 86 [.str, .int .i64] 2 2) (c :: cellsN 2 (el xs i)) := hq
  have hpre : ixPr (dpNm 86 [.str, .int .i64] 2 2) 2 [.l xs, c, .i 0, .i (xs.length : Int), .i 0] := ⟨xs, c, .i 0, 0, rfl, by omega, hm, hq⟩
  simp only [vt108, VT.ok, Nd.holds, X.outs, X.ds, X.d, Op1.ev, Op2.ev, List.cons_append, List.nil_append, List.getD_cons_zero, List.getD_cons_succ, D.int_i, D.bool_b, D.lst_l, F20800, R20800, F108]
  refine ⟨fun _ => hpre, ?_⟩
  simp only [ixLp, ixFn, Int.toNat_zero, Nat.sub_zero, scan_fs, ixI, cL, List.getD_cons_zero, List.getD_cons_succ, D.lst_l]
  split <;> rfl
theorem m106 : Meets Try.prog 106 S106 (R 106) (F 106) := by
  refine meets_of_vt (pre := R) (Φ := F) mixed (sgAt_all (P := Try.prog) (pre := R) (Φ := F) (l := sg106) (fcm ⟨m111, (fun _ h => nomatch h)⟩)) Try.func106 b106 n106 (loops_n 0 k106 fun k hk => by omega) e106 fun ds hf hq => ?_
  obtain ⟨x, c, rfl, hx, _⟩ := fits2 hf.flat
  simp only [vt106, VT.ok, Nd.holds, X.outs, X.ds, X.d, Op2.ev, takeD_zero, takeD_cons, List.cons_append, List.nil_append, List.getD_cons_zero, List.getD_cons_succ, D.int_i, D.bool_b, and_true, F111, R111, F106, ixFn, cfFn, ixI_any]
  exact fun _ => hq
theorem m85 : Meets Try.prog 85 S85 (R 85) (F 85) := by
  refine meets_of_vt (pre := R) (Φ := F) mixed (sgAt_all (P := Try.prog) (pre := R) (Φ := F) (l := sg85) (fcm ⟨m108, (fun _ h => nomatch h)⟩)) Try.func85 b85 n85 (loops_n 0 k85 fun k hk => by omega) e85 fun ds hf hq => ?_
  obtain ⟨x, c, rfl, hx, _⟩ := fits2 hf.flat
  simp only [vt85, VT.ok, Nd.holds, X.outs, X.ds, X.d, Op2.ev, takeD_zero, takeD_cons, List.cons_append, List.nil_append, List.getD_cons_zero, List.getD_cons_succ, D.int_i, D.bool_b, and_true, F108, R108, F85, ixFn, cfFn, ixI_any]
  exact fun _ => hq
theorem loopM90_0 : LoopMeets Try.prog F (R L90_0.key) L90_0 lb90_0 := by
  refine loop_meets (pre := R) mixed (sgAt_all (P := Try.prog) (pre := R) (Φ := F) (l := sg90) ((fun _ h => nomatch h))) (loops_n 0 lk90_0 fun k hk => by omega) L90_0 (fun ρ => ((ρ.getD 3 default).int - (ρ.getD 4 default).int).toNat) le90_0 fun ρ _ hq => ?_
  obtain ⟨xs, m, v, j, rfl, hj, hm⟩ : iiPr ρ := hq
  rw [maxLen_val] at hm
  by_cases hlt : j < xs.length
  · simp (disch := omega) only [rt90_0, VT.ok, Nd.holds, X.ds, X.d, Op1.ev, Op2.ev, List.getD_cons_zero, List.getD_cons_succ, D.int_i, D.bool_b, D.lst_l, Int.toNat_natCast, implies_true, true_and, ↓reduceIte, dle_t, dlt_t, w64']
    show if (m == cI (el xs j) 0) = true then _ else _
    cases hb : (m == cI (el xs j) 0)
    · simp only [Bool.false_eq_true, if_false]
      refine round_next ⟨⟨xs, m, v, j + 1, rfl, by omega, hm⟩, ?_, ?_⟩
      · show ((xs.length : Int) - ((j + 1 : Nat) : Int)).toNat < ((xs.length : Int) - (j : Int)).toNat
        omega
      · show iiLp [.l xs, .i m, v, .i (xs.length : Int), .i ((j + 1 : Nat) : Int)] = iiLp [.l xs, .i m, v, .i (xs.length : Int), .i (j : Int)]
        simp only [iiLp, Int.toNat_natCast]
        exact scan_next hlt hb
    · simp only [if_true]
      refine round_exit (by omega) ?_
      show iiLp [.l xs, .i m, v, .i (xs.length : Int), .i (j : Int)] = _
      simp only [iiLp, Int.toNat_natCast]
      exact scan_hit hlt hb
  · have hj' : j = xs.length := by omega
    subst hj'
    simp (disch := omega) only [rt90_0, VT.ok, X.ds, X.d, Op2.ev, List.getD_cons_zero, List.getD_cons_succ, D.int_i, D.bool_b, Bool.false_eq_true, ↓reduceIte, dlt_f]
    refine round_exit (by omega) ?_
    show iiLp [.l xs, .i m, v, .i (xs.length : Int), .i (xs.length : Int)] = _
    simp only [iiLp, Int.toNat_natCast]
    exact scan_end
theorem m90 : Meets Try.prog 90 S90 (R 90) (F 90) := by
  refine meets_of_vt (pre := R) (Φ := F) mixed (sgAt_all (P := Try.prog) (pre := R) (Φ := F) (l := sg90) ((fun _ h => nomatch h))) Try.func90 b90 n90 (loops_n 1 k90 fun k hk => match k, hk with | 0, _ => loop_this lf90_0 loopM90_0) e90 fun ds hf hq => ?_
  obtain ⟨x, y, rfl, hx, hy⟩ := fits2 hf.flat
  obtain ⟨xs, rfl, hm, _⟩ := wf_sl hx
  obtain ⟨m, rfl, _⟩ := wf_i64 hy
  have hpre : iiPr [.l xs, .i m, .i 0, .i (xs.length : Int), .i 0] := ⟨xs, m, .i 0, 0, rfl, by omega, hm⟩
  simp only [vt90, VT.ok, Nd.holds, X.outs, X.ds, X.d, Op1.ev, Op2.ev, List.cons_append, List.nil_append, List.getD_cons_zero, List.getD_cons_succ, D.int_i, D.bool_b, D.lst_l, F19000, R19000, F90]
  refine ⟨fun _ => hpre, ?_⟩
  simp only [iiLp, iiFn, Int.toNat_zero, Nat.sub_zero, scan_fs, ixI, cL, cI, List.getD_cons_zero, List.getD_cons_succ, D.lst_l, D.int_i]
  split <;> rfl
theorem m61 : Meets Try.prog 61 S61 (R 61) (F 61) := by
  refine meets_of_vt (pre := R) (Φ := F) mixed (sgAt_all (P := Try.prog) (pre := R) (Φ := F) (l := sg61) (fcm ⟨m90, (fun _ h => nomatch h)⟩)) Try.func61 b61 n61 (loops_n 0 k61 fun k hk => by omega) e61 fun ds hf hq => ?_
  obtain ⟨x, y, rfl, hx, hy⟩ := fits2 hf.flat
  simp only [vt61, VT.ok, Nd.holds, X.outs, X.ds, X.d, Op2.ev, takeD_zero, takeD_cons, List.cons_append, List.nil_append, List.getD_cons_zero, List.getD_cons_succ, D.int_i, D.bool_b, implies_true, and_true, F90, R90, F61, iiFn, ciFn, ixI_any]
end Go.Proofs.Ytindllmeeckfcaa.rv
namespace Go.Proofs.Ytindllmeeckfcaa.rv
set_option maxRecDepth 10000
open Go.RV
theorem m81 : Meets Try.prog 81 S81 (R 81) (F 81) := by
  refine meets_of_vt (pre := R) (Φ := F) mixed (sgAt_all (P := Try.prog) (pre := R) (Φ := F) (l := sg81) (fcm ⟨m104, (fun _ h => nomatch h)⟩)) Try.func81 b81 n81 (loops_n 0 k81 fun k hk => by omega) e81 fun ds hf _ => ?_
  obtain ⟨g, ds', rfl, h5, _⟩ := fitsG hf.flat
  obtain ⟨x, rfl, hx⟩ := fits1 h5
  obtain ⟨nm, rfl, _⟩ := wf_str hx
  simp only [vt81, VT.ok, Nd.holds, X.outs, X.ds, X.d, List.cons_append, List.nil_append, List.getD_cons_zero, List.getD_cons_succ, D.bool_b, takeD1_0, F104, R104, F81]
  exact ⟨fun _ i _ => ⟨[.s nm], cellsN 6 (el g.N i), rfl, rfl, cellsN_length 6 _⟩, rfl⟩
theorem loopM93_0 : LoopMeets Try.prog F (R L93_0.key) L93_0 lb93_0 := by
  refine loop_meets (pre := R) mixed (sgAt_all (P := Try.prog) (pre := R) (Φ := F) (l := sg93) ((fun _ h => nomatch h))) (loops_n 0 lk93_0 fun k hk => by omega) L93_0 (fun ρ => (((ρ.getD 5 default).lst.length : Int) - (ρ.getD 2 default).int).toNat) le93_0 fun ρ _ hq => ?_
  obtain ⟨nm, v, g, j, rfl, hj, hm⟩ : prFind ρ := hq
  rw [maxLen_val] at hm
  by_cases hlt : j < g.N.length
  · simp (disch := omega) only [rt93_0, VT.ok, Nd.holds, X.ds, X.d, Op1.ev, Op2.ev, List.getD_cons_zero, List.getD_cons_succ, D.int_i, D.bool_b, D.lst_l, D.str_s, Int.toNat_natCast, implies_true, true_and, ↓reduceIte, dle_t, dlt_t, w64']
    show if nmP g.N nm j = true then _ else _
    cases hb : nmP g.N nm j
    · simp only [Bool.false_eq_true, if_false]
      refine round_next ⟨⟨nm, v, g, j + 1, rfl, by omega, hm⟩, ?_, ?_⟩
      · show ((g.N.length : Int) - ((j + 1 : Nat) : Int)).toNat < ((g.N.length : Int) - (j : Int)).toNat
        omega
      · show lpFind [.s nm, v, .i ((j + 1 : Nat) : Int), .s g.nm, .b g.dr, .l g.N, .l g.E, .l g.C] = lpFind [.s nm, v, .i (j : Int), .s g.nm, .b g.dr, .l g.N, .l g.E, .l g.C]
        simp only [lpFind, Int.toNat_natCast]
        exact scan_next hlt hb
    · simp only [if_true]
      refine round_exit (by omega) ?_
      show lpFind [.s nm, v, .i (j : Int), .s g.nm, .b g.dr, .l g.N, .l g.E, .l g.C] = _
      simp only [lpFind, Int.toNat_natCast]
      exact scan_hit hlt hb
  · have hj' : j = g.N.length := by omega
    subst hj'
    simp (disch := omega) only [rt93_0, VT.ok, X.ds, X.d, Op1.ev, Op2.ev, List.getD_cons_zero, List.getD_cons_succ, D.int_i, D.bool_b, D.lst_l, Bool.false_eq_true, ↓reduceIte, dlt_f]
    refine round_exit (by omega) ?_
    show lpFind [.s nm, v, .i (g.N.length : Int), .s g.nm, .b g.dr, .l g.N, .l g.E, .l g.C] = _
    simp only [lpFind, Int.toNat_natCast]
    exact scan_end
theorem m93 : Meets Try.prog 93 S93 (R 93) (F 93) := by
  refine meets_of_vt (pre := R) (Φ := F) mixed (sgAt_all (P := Try.prog) (pre := R) (Φ := F) (l := sg93) ((fun _ h => nomatch h))) Try.func93 b93 n93 (loops_n 1 k93 fun k hk => match k, hk with | 0, _ => loop_this lf93_0 loopM93_0) e93 fun ds hf _ => ?_
  obtain ⟨g, ds', rfl, h5, _, ⟨hm, _⟩, _⟩ := fitsG hf.flat
  obtain ⟨x, rfl, hx⟩ := fits1 h5
  obtain ⟨nm, rfl, _⟩ := wf_str hx
  have hpre : prFind [.s nm, .i 0, .i 0, .s g.nm, .b g.dr, .l g.N, .l g.E, .l g.C] := ⟨nm, _, g, 0, rfl, by omega, hm⟩
  simp only [vt93, VT.ok, Nd.holds, X.outs, X.ds, X.d, Op2.ev, List.cons_append, List.nil_append, List.getD_cons_zero, List.getD_cons_succ, D.int_i, D.bool_b, F19300, R19300, F93]
  refine ⟨fun _ => hpre, ?_⟩
  simp only [lpFind, findD, find, Int.toNat_zero, Nat.sub_zero, scan_fs, ixI, cL, cS, List.getD_cons_zero, List.getD_cons_succ, D.lst_l, D.str_s]
  split <;> rfl
theorem find_le {N : List (List D)} {i : Nat} (h : i < N.length) : 0 ≤ find N (cS (el N i) 0) ∧ find N (cS (el N i) 0) ≤ i := by
  have h1 : fs (nmP N (cS (el N i) 0)) N.length ≤ i := by
    rcases Nat.lt_or_ge i (fs (nmP N (cS (el N i) 0)) N.length) with h2 | h2
    · have := fs_min h2
      simp at this
    · exact h2
  unfold find ixI
  rw [if_pos (by omega)]
  omega
theorem el_take {xs : List (List D)} {i j : Nat} (h : i < j) : el (xs.take j) i = el xs i := by
  simp only [el, List.getD, List.getElem?_take, if_pos h]
theorem any_take {xs : List (List D)} {nm : ByteArray} {j : Nat} (h : j ≤ xs.length) : anyN (nmP (xs.take j) nm) (xs.take j).length = anyN (nmP xs nm) j := by
  rw [List.length_take, Nat.min_eq_left h]
  exact anyN_congr fun k hk => by simp only [nmP, el_take hk]
theorem loopM84_0 : LoopMeets Try.prog F (R L84_0.key) L84_0 lb84_0 := by
  refine loop_meets (pre := R) mixed (sgAt_all (P := Try.prog) (pre := R) (Φ := F) (l := sg84) (fcm ⟨m52, fcm ⟨m106, (fun _ h => nomatch h)⟩⟩)) (loops_n 0 lk84_0 fun k hk => by omega) L84_0 (fun ρ => ((ρ.getD 3 default).int - (ρ.getD 4 default).int).toNat) le84_0 fun ρ _ hq => ?_
  obtain ⟨xs, v, j, rfl, hj, hm⟩ : prPorts ρ := hq
  rw [maxLen_val] at hm
  by_cases hlt : j < xs.length
  · have hN : portE xs j = 0 → RoundOk F (R L84_0.key) (fun ρ => ((ρ.getD 3 default).int - (ρ.getD 4 default).int).toNat) L84_0 [.l xs, v, .l xs, .i (xs.length : Int), .i (j : Int)] [.i (-1), v, .i ((j + 1 : Nat) : Int)] := fun h0 => by
      refine round_next ⟨⟨xs, v, j + 1, rfl, by omega, hm⟩, ?_, ?_⟩
      · show ((xs.length : Int) - ((j + 1 : Nat) : Int)).toNat < ((xs.length : Int) - (j : Int)).toNat
        omega
      · show lpPorts [.l xs, v, .l xs, .i (xs.length : Int), .i ((j + 1 : Nat) : Int)] = lpPorts [.l xs, v, .l xs, .i (xs.length : Int), .i (j : Int)]
        simp only [lpPorts, errLp, Int.toNat_natCast]
        exact scan_next hlt (by simp only [er, h0]; rfl)
    have hX : ∀ z : Int, portE xs j = z → z ≠ 0 → RoundOk F (R L84_0.key) (fun ρ => ((ρ.getD 3 default).int - (ρ.getD 4 default).int).toNat) L84_0 [.l xs, v, .l xs, .i (xs.length : Int), .i (j : Int)] [.i 0, .i z, .i (j : Int)] := fun z h0 hz => by
      refine round_exit (by omega) ?_
      show lpPorts [.l xs, v, .l xs, .i (xs.length : Int), .i (j : Int)] = _
      simp only [lpPorts, errLp, Int.toNat_natCast]
      rw [← h0]
      exact scan_hit hlt (by simp only [er, h0]; simpa using hz)
    simp (disch := omega) only [rt84_0, VT.ok, Nd.holds, X.outs, X.ds, X.d, Op1.ev, Op2.ev, takeD_zero, takeD_cons, List.cons_append, List.nil_append, List.getD_cons_zero, List.getD_cons_succ, D.int_i, D.bool_b, D.lst_l, ite_b, ite_or, Int.toNat_natCast, implies_true, true_and, takeD1_0, F52, R52, F106, R106, ↓reduceIte, dle_t, dlt_t, w64', nameD, cS]
    cases h1 : isName (cS (el xs j) 0)
    · simp only [Bool.not_false, if_true]
      exact hX 5 (by simp only [portE, h1, Bool.false_eq_true, if_false]) (by omega)
    · simp only [Bool.not_true, Bool.false_eq_true, if_false]
      refine ⟨fun _ i _ => ⟨_, cellsN 2 _, rfl, rfl, cellsN_length 2 _⟩, ?_⟩
      show if anyN (nmP (xs.take j) (cS (el xs j) 0)) (xs.take j).length = true then _ else _
      rw [any_take hj]
      cases h2 : anyN (nmP xs (cS (el xs j) 0)) j
      · simp only [Bool.false_eq_true, if_false]
        by_cases h3 : cI (el xs j) 1 < 0 ∨ 3 < cI (el xs j) 1
        · rw [if_pos (by exact dor_t h3)]
          exact hX 7 (by simp only [portE, h1, h2, if_true, Bool.false_eq_true, if_false, if_pos h3]) (by omega)
        · rw [if_neg (by exact dor_f h3)]
          exact hN (by simp only [portE, h1, h2, if_true, Bool.false_eq_true, if_false, if_neg h3])
      · simp only [if_true]
        exact hX 6 (by simp only [portE, h1, h2, if_true]) (by omega)
  · have hj' : j = xs.length := by omega
    subst hj'
    simp (disch := omega) only [rt84_0, VT.ok, X.ds, X.d, Op2.ev, List.getD_cons_zero, List.getD_cons_succ, D.int_i, D.bool_b, Bool.false_eq_true, ↓reduceIte, dlt_f]
    refine round_exit (by omega) ?_
    show lpPorts [.l xs, v, .l xs, .i (xs.length : Int), .i (xs.length : Int)] = _
    simp only [lpPorts, errLp, Int.toNat_natCast]
    exact scan_end
theorem m84 : Meets Try.prog 84 S84 (R 84) (F 84) := by
  refine meets_of_vt (pre := R) (Φ := F) mixed (sgAt_all (P := Try.prog) (pre := R) (Φ := F) (l := sg84) (fcm ⟨m52, fcm ⟨m106, (fun _ h => nomatch h)⟩⟩)) Try.func84 b84 n84 (loops_n 1 k84 fun k hk => match k, hk with | 0, _ => loop_this lf84_0 loopM84_0) e84 fun ds hf _ => ?_
  obtain ⟨x, rfl, hx⟩ := fits1 hf.flat
  obtain ⟨xs, rfl, hm, _⟩ := wf_sl hx
  have hpre : prPorts [.l xs, .i 0, .l xs, .i (xs.length : Int), .i 0] := ⟨xs, _, 0, rfl, by omega, hm⟩
  by_cases h : 8 < (xs.length : Int)
  · simp (disch := omega) only [vt84, VT.ok, X.ds, X.d, Op1.ev, Op2.ev, List.getD_cons_zero, D.int_i, D.bool_b, D.lst_l, F84, ↓reduceIte, dlt_t, ports8D, ports8, cL, if_pos h]
  · simp (disch := omega) only [vt84, VT.ok, Nd.holds, X.outs, X.ds, X.d, Op1.ev, Op2.ev, List.cons_append, List.nil_append, List.getD_cons_zero, List.getD_cons_succ, D.int_i, D.bool_b, D.lst_l, Bool.false_eq_true, F18400, R18400, F84, ↓reduceIte, dlt_f, ports8D, ports8, cL, if_neg h]
    refine ⟨fun _ => hpre, ?_⟩
    simp only [lpPorts, Int.toNat_zero, portsE]
    rcases errLp_two (portE xs) (.i 0) xs.length with ⟨h1, h2⟩ | ⟨h1, _, h2⟩ <;> simp (disch := omega) only [h1, h2, takeD_zero, takeD_cons, List.getD_cons_zero, List.getD_cons_succ, D.int_i, Bool.false_eq_true, ↓reduceIte, beq_t, beq_f]
theorem loopM95_1 : LoopMeets Try.prog F (R L95_1.key) L95_1 lb95_1 := by
  refine loop_meets (pre := R) mixed (sgAt_all (P := Try.prog) (pre := R) (Φ := F) (l := sg95) (fcm ⟨m68, (fun _ h => nomatch h)⟩)) (loops_n 0 lk95_1 fun k hk => by omega) L95_1 (fun ρ => ((ρ.getD 2 default).int - (ρ.getD 3 default).int).toNat) le95_1 fun ρ _ hq => ?_
  obtain ⟨xs, v, i, j, rfl, hj, hi, hm⟩ : prPortsI ρ := hq
  rw [maxLen_val] at hm
  by_cases hlt : j < i
  · simp (disch := omega) only [rt95_1, VT.ok, Nd.holds, X.ds, X.d, Op1.ev, Op2.ev, List.getD_cons_zero, List.getD_cons_succ, D.int_i, D.bool_b, D.lst_l, Int.toNat_natCast, implies_true, true_and, ↓reduceIte, dle_t, dlt_t, w64']
    show if nmP xs (cS (el xs i) 0) j = true then _ else _
    cases hb : nmP xs (cS (el xs i) 0) j
    · simp only [Bool.false_eq_true, if_false]
      refine round_next ⟨⟨xs, v, i, j + 1, rfl, by omega, hi, hm⟩, ?_, ?_⟩
      · show ((i : Int) - ((j + 1 : Nat) : Int)).toNat < ((i : Int) - (j : Int)).toNat
        omega
      · show lpPortsI [.l xs, v, .i (i : Int), .i ((j + 1 : Nat) : Int)] = lpPortsI [.l xs, v, .i (i : Int), .i (j : Int)]
        simp only [lpPortsI, Int.toNat_natCast]
        exact scan_next hlt hb
    · simp only [if_true]
      refine round_exit (by omega) ?_
      show lpPortsI [.l xs, v, .i (i : Int), .i (j : Int)] = _
      simp only [lpPortsI, Int.toNat_natCast]
      exact scan_hit hlt hb
  · have hj' : j = i := by omega
    subst hj'
    simp (disch := omega) only [rt95_1, VT.ok, X.ds, X.d, Op2.ev, List.getD_cons_zero, List.getD_cons_succ, D.int_i, D.bool_b, Bool.false_eq_true, ↓reduceIte, dlt_f]
    refine round_exit (by omega) ?_
    show lpPortsI [.l xs, v, .i (j : Int), .i (j : Int)] = _
    simp only [lpPortsI, Int.toNat_natCast]
    exact scan_end
theorem loopM95_0 : LoopMeets Try.prog F (R L95_0.key) L95_0 lb95_0 := by
  refine loop_meets (pre := R) mixed (sgAt_all (P := Try.prog) (pre := R) (Φ := F) (l := sg95) (fcm ⟨m68, (fun _ h => nomatch h)⟩)) (loops_n 1 lk95_0 fun k hk => match k, hk with | 0, _ => by rw [li95_0_0]; exact loop_this lf95_1 loopM95_1) L95_0 (fun ρ => (((ρ.getD 0 default).lst.length : Int) - (ρ.getD 2 default).int).toNat) le95_0 fun ρ _ hq => ?_
  obtain ⟨xs, v, j, rfl, hj, hm⟩ : prPortsR ρ := hq
  rw [maxLen_val] at hm
  by_cases hlt : j < xs.length
  · have hN : portE xs j = 0 → RoundOk F (R L95_0.key) (fun ρ => (((ρ.getD 0 default).lst.length : Int) - (ρ.getD 2 default).int).toNat) L95_0 [.l xs, v, .i (j : Int)] [.i (-1), v, .i ((j + 1 : Nat) : Int)] := fun h0 => by
      refine round_next ⟨⟨xs, v, j + 1, rfl, by omega, hm⟩, ?_, ?_⟩
      · show ((xs.length : Int) - ((j + 1 : Nat) : Int)).toNat < ((xs.length : Int) - (j : Int)).toNat
        omega
      · show lpPortsR [.l xs, v, .i ((j + 1 : Nat) : Int)] = lpPortsR [.l xs, v, .i (j : Int)]
        simp only [lpPortsR, errLp, Int.toNat_natCast]
        exact scan_next hlt (by simp only [er, h0]; rfl)
    have hX : ∀ z : Int, portE xs j = z → z ≠ 0 → RoundOk F (R L95_0.key) (fun ρ => (((ρ.getD 0 default).lst.length : Int) - (ρ.getD 2 default).int).toNat) L95_0 [.l xs, v, .i (j : Int)] [.i 0, .i z, .i (j : Int)] := fun z h0 hz => by
      refine round_exit (by omega) ?_
      show lpPortsR [.l xs, v, .i (j : Int)] = _
      simp only [lpPortsR, errLp, Int.toNat_natCast]
      rw [← h0]
      exact scan_hit hlt (by simp only [er, h0]; simpa using hz)
    have hpre : prPortsI [.l xs, v, .i (j : Int), .i 0] := ⟨xs, v, j, 0, rfl, by omega, hlt, by rw [maxLen_val]; omega⟩
    simp (disch := omega) only [rt95_0, VT.ok, Nd.holds, X.outs, X.ds, X.d, Op1.ev, Op2.ev, takeD_zero, takeD_cons, List.cons_append, List.nil_append, List.getD_cons_zero, List.getD_cons_succ, D.int_i, D.bool_b, D.lst_l, ite_b, ite_or, Int.toNat_natCast, implies_true, true_and, F68, R68, F19500, R19500, ↓reduceIte, dle_t, dlt_t, w64', nameD, cS, lpPortsI, Int.toNat_natCast, Int.toNat_zero, Nat.sub_zero]
    cases h1 : isName (cS (el xs j) 0)
    · simp only [Bool.not_false, if_true]
      exact hX 5 (by simp only [portE, h1, Bool.false_eq_true, if_false]) (by omega)
    · simp only [Bool.not_true, Bool.false_eq_true, if_false]
      refine ⟨fun _ => hpre, ?_⟩
      rcases scan_two (p := nmP xs (cS (el xs j) 0)) j with ⟨h2, k, _, _, _, h⟩ | ⟨h2, h⟩
      · simp only [h, takeD_zero, takeD_cons, List.getD_cons_zero, List.getD_cons_succ, D.int_i, ↓reduceIte, beq_t]
        exact hX 6 (by simp only [portE, h1, h2, if_true]) (by omega)
      · simp (disch := omega) only [h, takeD_zero, takeD_cons, List.getD_cons_zero, List.getD_cons_succ, D.int_i, Bool.false_eq_true, ↓reduceIte, beq_f]
        by_cases h3 : cI (el xs j) 1 < 0 ∨ 3 < cI (el xs j) 1
        · rw [if_pos (by exact dor_t h3)]
          exact hX 7 (by simp only [portE, h1, h2, if_true, Bool.false_eq_true, if_false, if_pos h3]) (by omega)
        · rw [if_neg (by exact dor_f h3)]
          exact hN (by simp only [portE, h1, h2, if_true, Bool.false_eq_true, if_false, if_neg h3])
  · have hj' : j = xs.length := by omega
    subst hj'
    simp (disch := omega) only [rt95_0, VT.ok, X.ds, X.d, Op1.ev, Op2.ev, List.getD_cons_zero, List.getD_cons_succ, D.int_i, D.bool_b, D.lst_l, Bool.false_eq_true, ↓reduceIte, dlt_f]
    refine round_exit (by omega) ?_
    show lpPortsR [.l xs, v, .i (xs.length : Int)] = _
    simp only [lpPortsR, errLp, Int.toNat_natCast]
    exact scan_end
theorem m95 : Meets Try.prog 95 S95 (R 95) (F 95) := by
  refine meets_of_vt (pre := R) (Φ := F) mixed (sgAt_all (P := Try.prog) (pre := R) (Φ := F) (l := sg95) (fcm ⟨m68, (fun _ h => nomatch h)⟩)) Try.func95 b95 n95 (loops_n 2 k95 fun k hk => match k, hk with | 0, _ => loop_this lf95_0 loopM95_0 | 1, _ => loop_this lf95_1 loopM95_1) e95 fun ds hf _ => ?_
  obtain ⟨x, rfl, hx⟩ := fits1 hf.flat
  obtain ⟨xs, rfl, hm, _⟩ := wf_sl hx
  have hpre : prPortsR [.l xs, .i 0, .i 0] := ⟨xs, _, 0, rfl, by omega, hm⟩
  simp (disch := omega) only [vt95, VT.ok, Nd.holds, X.outs, X.ds, X.d, Op2.ev, List.cons_append, List.nil_append, List.getD_cons_zero, List.getD_cons_succ, D.int_i, D.bool_b, D.lst_l, F19501, R19501, F95, portsD, cL]
  refine ⟨fun _ => hpre, ?_⟩
  simp only [lpPortsR, Int.toNat_zero, portsE]
  rcases errLp_two (portE xs) (.i 0) xs.length with ⟨h1, h2⟩ | ⟨h1, _, h2⟩ <;> simp (disch := omega) only [h1, h2, takeD_zero, takeD_cons, List.getD_cons_zero, List.getD_cons_succ, D.int_i, Bool.false_eq_true, ↓reduceIte, beq_t, beq_f]
end Go.Proofs.Ytindllmeeckfcaa.rv
namespace Go.Proofs.Ytindllmeeckfcaa.rv
set_option maxRecDepth 10000
open Go.RV
theorem if4 (a b c d : Bool) (p : Int) : if (!a || !b || c || d) = true then [D.i 3] = [D.i (if (a && b && !c && !d) = true then p else 3)] else [D.i p] = [D.i (if (a && b && !c && !d) = true then p else 3)] := by
  cases a <;> cases b <;> cases c <;> cases d <;> rfl
theorem m53 : Meets Try.prog 53 S53 (R 53) (F 53) := by
  refine meets_of_vt (pre := R) (Φ := F) mixed (sgAt_all (P := Try.prog) (pre := R) (Φ := F) (l := sg53) (fcm ⟨m52, fcm ⟨m81, fcm ⟨m82, fcm ⟨m83, fcm ⟨m84, (fun _ h => nomatch h)⟩⟩⟩⟩⟩)) Try.func53 b53 n53 (loops_n 0 k53 fun k hk => by omega) e53 fun ds hf hq => ?_
  obtain ⟨g, ds', rfl, h5, _, ⟨hmN, hN⟩, _⟩ := fitsG hf.flat
  obtain ⟨x, rfl, hx⟩ := fits1 h5
  obtain ⟨i, e, hi⟩ : prNode (.s g.nm :: .b g.dr :: .l g.N :: .l g.E :: .l g.C :: [x]) := hq
  have e : x = .i (i : Int) := e
  subst e
  have hi : i < g.N.length := hi
  simp (disch := omega) only [vt53, VT.ok, Nd.holds, X.outs, X.ds, X.d, Op1.ev, Op2.ev, takeD_zero, takeD_cons, List.cons_append, List.nil_append, List.getD_cons_zero, List.getD_cons_succ, D.int_i, D.bool_b, D.lst_l, ite_b, ite_or, Int.toNat_natCast, implies_true, true_and, F52, R52, F81, R81, F82, R82, F83, R83, F84, R84, F53, dle_t, dlt_t, nameD, findD, labelD, fn83_eq, sizedD, ports8D, nodeD, nodeE, cS, cI, cL, Int.toNat_natCast]
  cases h1 : isName (cS (el g.N i) 0)
  · simp only [Bool.not_false, if_true, Bool.false_eq_true, if_false]
  · simp only [Bool.not_true, if_true, Bool.false_eq_true, if_false]
    by_cases h2 : find g.N (cS (el g.N i) 0) < i
    · rw [if_pos (by exact dec_t h2), if_pos h2]
    · rw [if_neg (by exact dec_f h2), if_neg h2]
      by_cases h3 : labelE (cS (el g.N i) 1) = 0
      · rw [if_neg (by exact bne_f h3), if_pos h3]
        exact if4 _ _ _ _ _
      · rw [if_pos (by exact bne_t h3), if_neg h3]
theorem m69 : Meets Try.prog 69 S69 (R 69) (F 69) := by
  refine meets_of_vt (pre := R) (Φ := F) mixed (sgAt_all (P := Try.prog) (pre := R) (Φ := F) (l := sg69) (fcm ⟨m68, fcm ⟨m93, fcm ⟨m94, fcm ⟨m95, (fun _ h => nomatch h)⟩⟩⟩⟩)) Try.func69 b69 n69 (loops_n 0 k69 fun k hk => by omega) e69 fun ds hf hq => ?_
  obtain ⟨g, ds', rfl, h5, _, ⟨hmN, hN⟩, _⟩ := fitsG hf.flat
  obtain ⟨x, rfl, hx⟩ := fits1 h5
  obtain ⟨i, e, hi⟩ : prNode (.s g.nm :: .b g.dr :: .l g.N :: .l g.E :: .l g.C :: [x]) := hq
  have e : x = .i (i : Int) := e
  subst e
  have hi : i < g.N.length := hi
  have hfl := find_le hi
  have hF : F 69 (.s g.nm :: .b g.dr :: .l g.N :: .l g.E :: .l g.C :: [.i (i : Int)]) = [.i (nodeE g.N g.C i)] := rfl
  rw [hF]
  generalize hv : nodeE g.N g.C i = res
  unfold nodeE at hv
  simp (disch := omega) only [vt69, VT.ok, Nd.holds, X.outs, X.ds, X.d, Op1.ev, Op2.ev, takeD_zero, takeD_cons, List.cons_append, List.nil_append, List.getD_cons_zero, List.getD_cons_succ, D.int_i, D.bool_b, D.lst_l, ite_b, ite_or, Int.toNat_natCast, implies_true, true_and, F68, R68, F93, R93, F94, R94, F95, R95, dle_t, dlt_t, nameD, findD, plainD, portsD, cS, cL, Int.toNat_natCast]
  cases h1 : isName (cS (el g.N i) 0)
  · rw [h1] at hv
    simp only [Bool.not_false, if_true]
    rw [← hv]; rfl
  · simp only [h1, if_true] at hv
    simp only [Bool.not_true, Bool.false_eq_true, if_false]
    by_cases h2 : find g.N (cS (el g.N i) 0) < i
    · rw [if_pos h2] at hv
      have h2' : find g.N (cS (el g.N i) 0) ≠ i := by omega
      rw [if_pos (by exact bne_t h2'), ← hv]
    · rw [if_neg h2] at hv
      have h2' : find g.N (cS (el g.N i) 0) = i := by omega
      rw [if_neg (by exact bne_f h2')]
      by_cases h4 : 32 < ((cS (el g.N i) 1).size : Int)
      · have h3 : labelE (cS (el g.N i) 1) = 2 := by rw [labelE, if_pos h4]
        rw [h3, if_neg (by decide)] at hv
        rw [if_pos (by exact dec_t h4), ← hv]
      · rw [if_neg (by exact dec_f h4)]
        cases h6 : plainB (cS (el g.N i) 1)
        · have h3 : labelE (cS (el g.N i) 1) = 7 := by rw [labelE, if_neg h4, h6]; rfl
          rw [h3, if_neg (by decide)] at hv
          simp only [Bool.not_false, if_true]
          rw [← hv]
        · have h3 : labelE (cS (el g.N i) 1) = 0 := by rw [labelE, if_neg h4, h6]; rfl
          rw [h3, if_pos rfl] at hv
          simp only [Bool.not_true, Bool.false_eq_true, if_false]
          have f : ∀ x : Int, sizedB x = !(decide (x < 1) || decide (1048576 < x)) := fun x => by
            unfold sizedB
            rw [Bool.not_or, ← decide_not, ← decide_not]
            congr 1 <;> exact decide_eq_decide.2 (by omega)
          have e : (sizedB (cI (el g.N i) 2) && sizedB (cI (el g.N i) 3) && !decide (cI (el g.N i) 4 < -1) && !decide ((g.C.length : Int) ≤ cI (el g.N i) 4)) = !(((((decide (cI (el g.N i) 2 < 1) || decide (1048576 < cI (el g.N i) 2)) || decide (cI (el g.N i) 3 < 1)) || decide (1048576 < cI (el g.N i) 3)) || decide (cI (el g.N i) 4 < -1)) || decide ((g.C.length : Int) ≤ cI (el g.N i) 4)) := by
            rw [f, f]
            simp only [Bool.not_or, Bool.and_assoc]
          rw [e] at hv
          cases hc : (((((decide (cI (el g.N i) 2 < 1) || decide (1048576 < cI (el g.N i) 2)) || decide (cI (el g.N i) 3 < 1)) || decide (1048576 < cI (el g.N i) 3)) || decide (cI (el g.N i) 4 < -1)) || decide ((g.C.length : Int) ≤ cI (el g.N i) 4))
          · rw [hc] at hv
            rw [if_neg (by first | exact ne_true_of_eq_false hc | decide)]
            have hv : ports8 (cL (el g.N i) 5) = res := hv
            by_cases h8 : 8 < ((cL (el g.N i) 5).length : Int)
            · rw [ports8, if_pos h8] at hv
              rw [if_pos (by exact dec_t h8), ← hv]
            · rw [ports8, if_neg h8] at hv
              rw [if_neg (by exact dec_f h8), ← hv]
          · rw [hc] at hv
            rw [if_pos (by first | exact hc | rfl), ← hv]; rfl
end Go.Proofs.Ytindllmeeckfcaa.rv
namespace Go.Proofs.Ytindllmeeckfcaa.rv
set_option maxRecDepth 10000
open Go.RV
theorem up_fuel {C : List (List D)} : ∀ (f f' : Nat) (c : Int), c < f → c < f' → okC C (c + 1).toNat → up C f c = up C f' c
  | 0, 0, _, _, _, _ => rfl
  | 0, f' + 1, c, h, _, _ => by simp only [up]; rw [if_neg (by omega)]
  | f + 1, 0, c, _, h, _ => by simp only [up]; rw [if_neg (by omega)]
  | f + 1, f' + 1, c, h, h', hok => by
    simp only [up]
    by_cases h0 : 0 ≤ c
    · rw [if_pos h0, if_pos h0]
      have := hok c.toNat (by omega)
      rw [up_fuel f f' _ (by omega) (by omega) (hok.mono (by omega))]
    · rw [if_neg h0, if_neg h0]
theorem around_neg {C : List (List D)} {c : Int} (h : c < 0) : around C c = [] := by
  unfold around up; rw [if_neg (by omega)]
theorem around_at {C : List (List D)} {c : Int} (h0 : 0 ≤ c) (hok : okC C (c + 1).toNat) : around C c = c :: around C (cI (el C c.toNat) 1) := by
  have hb := hok c.toNat (by omega)
  unfold around
  simp only [up]
  rw [if_pos h0]
  congr 1
  exact up_fuel c.toNat ((cI (el C c.toNat) 1).toNat + 1) (cI (el C c.toNat) 1) (by omega) (by omega) (hok.mono (m := (cI (el C c.toNat) 1 + 1).toNat) (by omega))
theorem atC_up {C : List (List D)} {c : Int} (h : atC C c) (h0 : 0 ≤ c) : atC C (cI (el C c.toNat) 1) := by
  obtain ⟨h1, h2, h3, h4⟩ := h
  have hb := h4 c.toNat (by omega)
  exact ⟨by omega, by omega, h3, h4.mono (m := (cI (el C c.toNat) 1 + 1).toNat) (by omega)⟩
theorem rowI1_of {C : List (List D)} (h : ∀ x ∈ C, FitsF [.str, .int .i64] x) : rowI1 C := fun i hi => by
  have hx := h (el C i) (getD_mem [] hi)
  obtain ⟨a, b, e, _, hb⟩ := fits2 hx
  obtain ⟨z, rfl, _⟩ := wf_i64 hb
  simp only [cI, e]; rfl
theorem loopM89_0 : LoopMeets Try.prog F (R L89_0.key) L89_0 lb89_0 := by
  refine loop_meets (pre := R) mixed (sgAt_all (P := Try.prog) (pre := R) (Φ := F) (l := sg89) ((fun _ h => nomatch h))) (loops_n 0 lk89_0 fun k hk => by omega) L89_0 (fun ρ => ((ρ.getD 0 default).int + 1).toNat) le89_0 fun ρ _ hq => ?_
  obtain ⟨c, g, acc, rfl, hat, hrow, hacc⟩ : prArL ρ := hq
  have hat0 := hat
  obtain ⟨h1, h2, h3, h4⟩ := hat
  by_cases h0 : 0 ≤ c
  · have hn : c.toNat < g.C.length := by omega
    have hr : (g.C.getD c.toNat []).getD 1 default = .i (cI (el g.C c.toNat) 1) := hrow _ hn
    have hb := h4 c.toNat (by omega)
    simp (disch := omega) only [rt89_0, VT.ok, Nd.holds, X.ds, X.d, Op1.ev, Op2.ev, List.getD_cons_zero, List.getD_cons_succ, D.int_i, D.bool_b, D.lst_l, implies_true, true_and, ↓reduceIte, dle_t, dlt_t, hr, List.length_append, List.length_cons, List.length_nil]
    refine round_next ⟨⟨cI (el g.C c.toNat) 1, g, acc ++ [[.i c]], rfl, atC_up hat0 h0, hrow, by rw [List.length_append, List.length_cons, List.length_nil]; omega⟩, ?_, ?_⟩
    · show (cI (el g.C c.toNat) 1 + 1).toNat < (c + 1).toNat
      omega
    · show lpAr [.i (cI (el g.C c.toNat) 1), .s g.nm, .b g.dr, .l g.N, .l g.E, .l g.C, .l (acc ++ [[.i c]])] = lpAr [.i c, .s g.nm, .b g.dr, .l g.N, .l g.E, .l g.C, .l acc]
      simp only [lpAr, around_at h0 h4, List.map_cons, List.append_assoc, List.cons_append, List.nil_append]
      rfl
  · simp (disch := omega) only [rt89_0, VT.ok, X.ds, X.d, Op2.ev, List.getD_cons_zero, List.getD_cons_succ, D.int_i, D.bool_b, Bool.false_eq_true, ↓reduceIte, dle_f]
    refine round_exit (by omega) ?_
    show lpAr [.i c, .s g.nm, .b g.dr, .l g.N, .l g.E, .l g.C, .l acc] = _
    have : c = -1 := by omega
    subst this
    simp only [lpAr, around_neg (show (-1 : Int) < 0 by omega), List.map_nil, List.append_nil]
theorem m89 : Meets Try.prog 89 S89 (R 89) (F 89) := by
  refine meets_of_vt (pre := R) (Φ := F) mixed (sgAt_all (P := Try.prog) (pre := R) (Φ := F) (l := sg89) ((fun _ h => nomatch h))) Try.func89 b89 n89 (loops_n 1 k89 fun k hk => match k, hk with | 0, _ => loop_this lf89_0 loopM89_0) e89 fun ds hf hq => ?_
  obtain ⟨g, ds', rfl, h5, _, _, _, ⟨_, hC⟩⟩ := fitsG hf.flat
  obtain ⟨x, rfl, hx⟩ := fits1 h5
  obtain ⟨c, rfl, _⟩ := wf_i64 hx
  have hq : atC g.C c := hq
  have hpre : prArL [.i c, .s g.nm, .b g.dr, .l g.N, .l g.E, .l g.C, .l []] := ⟨c, g, [], rfl, hq, rowI1_of hC, by have := hq.1; have := hq.2.1; have := hq.2.2.1; simp; omega⟩
  simp only [vt89, VT.ok, Nd.holds, X.outs, X.ds, X.d, takeD_zero, takeD_cons, List.cons_append, List.nil_append, List.getD_cons_zero, List.getD_cons_succ, D.int_i, D.bool_b, D.lst_l, and_true, F18900, R18900, F89, lpAr, aroundD, cL, cI]
  exact fun _ => hpre
theorem m87 : Meets Try.prog 87 S87 (R 87) (F 87) := by
  refine meets_of_vt (pre := R) (Φ := F) mixed (sgAt_all (P := Try.prog) (pre := R) (Φ := F) (l := sg87) (fcm ⟨m89, (fun _ h => nomatch h)⟩)) Try.func87 b87 n87 (loops_n 0 k87 fun k hk => by omega) e87 fun ds hf hq => ?_
  obtain ⟨g, ds', rfl, h5, _⟩ := fitsG hf.flat
  obtain ⟨x, rfl, hx⟩ := fits1 h5
  simp only [vt87, VT.ok, Nd.holds, X.outs, X.ds, X.d, Op1.ev, takeD_zero, takeD_cons, List.cons_append, List.nil_append, List.getD_cons_zero, List.getD_cons_succ, D.bool_b, D.lst_l, List.length_map, and_true, F89, R89, F87, aroundD, depthD, depth, cL, cI]
  exact fun _ => hq
theorem depth_at {C : List (List D)} {c : Int} (h0 : 0 ≤ c) (hok : okC C (c + 1).toNat) : depth C c = depth C (cI (el C c.toNat) 1) + 1 := by
  unfold depth; rw [around_at h0 hok]; simp
theorem depth_neg {C : List (List D)} {c : Int} (h : c < 0) : depth C c = 0 := by unfold depth; rw [around_neg h]; rfl
theorem loopM96_0 : LoopMeets Try.prog F (R L96_0.key) L96_0 lb96_0 := by
  refine loop_meets (pre := R) mixed (sgAt_all (P := Try.prog) (pre := R) (Φ := F) (l := sg96) ((fun _ h => nomatch h))) (loops_n 0 lk96_0 fun k hk => by omega) L96_0 (fun ρ => ((ρ.getD 0 default).int + 1).toNat) le96_0 fun ρ _ hq => ?_
  obtain ⟨c, n, g, rfl, hat, hrow, hn0, hacc⟩ : prDep ρ := hq
  have hat0 := hat
  obtain ⟨h1, h2, h3, h4⟩ := hat
  by_cases h0 : 0 ≤ c
  · have hn : c.toNat < g.C.length := by omega
    have hr : (g.C.getD c.toNat []).getD 1 default = .i (cI (el g.C c.toNat) 1) := hrow _ hn
    have hb := h4 c.toNat (by omega)
    simp (disch := omega) only [rt96_0, VT.ok, Nd.holds, X.ds, X.d, Op1.ev, Op2.ev, List.getD_cons_zero, List.getD_cons_succ, D.int_i, D.bool_b, D.lst_l, implies_true, true_and, ↓reduceIte, dle_t, dlt_t, w64', hr]
    refine round_next ⟨⟨cI (el g.C c.toNat) 1, n + 1, g, rfl, atC_up hat0 h0, hrow, by omega, by omega⟩, ?_, ?_⟩
    · show (cI (el g.C c.toNat) 1 + 1).toNat < (c + 1).toNat
      omega
    · show lpDep [.i (cI (el g.C c.toNat) 1), .i (n + 1), .s g.nm, .b g.dr, .l g.N, .l g.E, .l g.C] = lpDep [.i c, .i n, .s g.nm, .b g.dr, .l g.N, .l g.E, .l g.C]
      simp only [lpDep, depth_at h0 h4]
      rw [show n + 1 + depth g.C (cI (el g.C c.toNat) 1) = n + (depth g.C (cI (el g.C c.toNat) 1) + 1) by omega]
  · simp (disch := omega) only [rt96_0, VT.ok, X.ds, X.d, Op2.ev, List.getD_cons_zero, List.getD_cons_succ, D.int_i, D.bool_b, Bool.false_eq_true, ↓reduceIte, dle_f]
    refine round_exit (by omega) ?_
    show lpDep [.i c, .i n, .s g.nm, .b g.dr, .l g.N, .l g.E, .l g.C] = _
    have : c = -1 := by omega
    subst this
    simp only [lpDep, depth_neg (show (-1 : Int) < 0 by omega), Int.add_zero]
theorem m96 : Meets Try.prog 96 S96 (R 96) (F 96) := by
  refine meets_of_vt (pre := R) (Φ := F) mixed (sgAt_all (P := Try.prog) (pre := R) (Φ := F) (l := sg96) ((fun _ h => nomatch h))) Try.func96 b96 n96 (loops_n 1 k96 fun k hk => match k, hk with | 0, _ => loop_this lf96_0 loopM96_0) e96 fun ds hf hq => ?_
  obtain ⟨g, ds', rfl, h5, _, _, _, ⟨_, hC⟩⟩ := fitsG hf.flat
  obtain ⟨x, rfl, hx⟩ := fits1 h5
  obtain ⟨c, rfl, _⟩ := wf_i64 hx
  have hq : atC g.C c := hq
  have hpre : prDep [.i c, .i 0, .s g.nm, .b g.dr, .l g.N, .l g.E, .l g.C] := ⟨c, 0, g, rfl, hq, rowI1_of hC, by omega, by have := hq.2.1; have := hq.2.2.1; omega⟩
  simp only [vt96, VT.ok, Nd.holds, X.outs, X.ds, X.d, takeD_zero, takeD_cons, List.cons_append, List.nil_append, List.getD_cons_zero, List.getD_cons_succ, D.int_i, D.bool_b, D.lst_l, and_true, F19600, R19600, F96, lpDep, depthD, cL, cI, Int.zero_add]
  exact fun _ => hpre
theorem m54 : Meets Try.prog 54 S54 (R 54) (F 54) := by
  refine meets_of_vt (pre := R) (Φ := F) mixed (sgAt_all (P := Try.prog) (pre := R) (Φ := F) (l := sg54) (fcm ⟨m52, fcm ⟨m81, fcm ⟨m85, fcm ⟨m87, (fun _ h => nomatch h)⟩⟩⟩⟩)) Try.func54 b54 n54 (loops_n 0 k54 fun k hk => by omega) e54 fun ds hf hq => ?_
  obtain ⟨g, ds', rfl, h5, _, _, _, ⟨_, hC⟩⟩ := fitsG hf.flat
  obtain ⟨x, rfl, hx⟩ := fits1 h5
  obtain ⟨i, e, hi, h16, hok⟩ : prClu (.s g.nm :: .b g.dr :: .l g.N :: .l g.E :: .l g.C :: [x]) := hq
  have e : x = .i (i : Int) := e
  subst e
  have hi : i < g.C.length := hi
  have h16 : g.C.length ≤ 16 := h16
  have hok : okC g.C i := hok
  have hF : F 54 (.s g.nm :: .b g.dr :: .l g.N :: .l g.E :: .l g.C :: [.i (i : Int)]) = [.i (cluE g.N g.C i)] := rfl
  rw [hF]
  generalize hv : cluE g.N g.C i = res
  unfold cluE at hv
  simp (disch := omega) only [vt54, VT.ok, Nd.holds, X.outs, X.ds, X.d, Op1.ev, Op2.ev, takeD_zero, takeD_cons, List.cons_append, List.nil_append, List.getD_cons_zero, List.getD_cons_succ, D.int_i, D.bool_b, D.lst_l, ite_b, ite_or, Int.toNat_natCast, implies_true, true_and, takeD1_0, F52, R52, F81, R81, F85, R85, F87, R87, dle_t, dlt_t, nameD, findD, depthD, cS, cI, cL, Int.toNat_natCast]
  cases h1 : isName (cS (el g.C i) 0)
  · rw [h1] at hv
    simp only [Bool.not_false, if_true]
    rw [← hv]; rfl
  · simp only [h1, if_true] at hv
    simp only [Bool.not_true, Bool.false_eq_true, if_false]
    refine ⟨fun _ k _ => ⟨_, cellsN 2 _, rfl, rfl, cellsN_length 2 _⟩, ?_⟩
    show if (if decide (0 ≤ find g.N (cS (el g.C i) 0)) = true then D.b true else D.b (anyN (nmP (g.C.take i) (cS (el g.C i) 0)) (g.C.take i).length)).bool = true then _ else _
    rw [any_take (by omega)]
    simp only [ite_b, ite_or, D.bool_b]
    cases h2 : (decide (0 ≤ find g.N (cS (el g.C i) 0)) || anyN (nmP g.C (cS (el g.C i) 0)) i)
    · rw [h2] at hv
      simp only [Bool.false_eq_true, if_false] at hv ⊢
      by_cases h3 : cI (el g.C i) 1 < -1 ∨ (i : Int) ≤ cI (el g.C i) 1
      · rw [if_pos h3] at hv
        rw [if_pos (by exact dor_t h3), ← hv]
      · rw [if_neg h3] at hv
        rw [if_neg (by exact dor_f h3)]
        have hat : atC g.C i := ⟨by omega, by omega, h16, fun k hk => by
          by_cases e : k = i
          · subst e; omega
          · exact hok k (by omega)⟩
        refine ⟨fun _ => hat, ?_⟩
        by_cases h4 : 6 < depth g.C i
        · rw [if_pos h4] at hv
          rw [if_pos (by exact dec_t h4), ← hv]
        · rw [if_neg h4] at hv
          rw [if_neg (by exact dec_f h4), ← hv]
    · rw [h2] at hv
      simp only [if_true] at hv ⊢
      rw [← hv]
theorem loopM70_0 : LoopMeets Try.prog F (R L70_0.key) L70_0 lb70_0 := by
  refine loop_meets (pre := R) mixed (sgAt_all (P := Try.prog) (pre := R) (Φ := F) (l := sg70) (fcm ⟨m68, fcm ⟨m93, fcm ⟨m96, (fun _ h => nomatch h)⟩⟩⟩)) (loops_n 0 lk70_0 fun k hk => by omega) L70_0 (fun ρ => ((ρ.getD 0 default).int - (ρ.getD 2 default).int).toNat) le70_0 fun ρ _ hq => ?_
  obtain ⟨i, v, g, nm, z, j, rfl, hj, hi, hm⟩ : prCluR ρ := hq
  rw [maxLen_val] at hm
  by_cases hlt : j < i
  · simp (disch := omega) only [rt70_0, VT.ok, Nd.holds, X.ds, X.d, Op1.ev, Op2.ev, List.getD_cons_zero, List.getD_cons_succ, D.int_i, D.bool_b, D.lst_l, D.str_s, Int.toNat_natCast, implies_true, true_and, ↓reduceIte, dle_t, dlt_t, w64']
    show if nmP g.C nm j = true then _ else _
    cases hb : nmP g.C nm j
    · simp only [Bool.false_eq_true, if_false]
      refine round_next ⟨⟨i, v, g, nm, z, j + 1, rfl, by omega, hi, hm⟩, ?_, ?_⟩
      · show ((i : Int) - ((j + 1 : Nat) : Int)).toNat < ((i : Int) - (j : Int)).toNat
        omega
      · show lpCluR [.i (i : Int), v, .i ((j + 1 : Nat) : Int), .s g.nm, .b g.dr, .l g.N, .l g.E, .l g.C, .s nm, z] = lpCluR [.i (i : Int), v, .i (j : Int), .s g.nm, .b g.dr, .l g.N, .l g.E, .l g.C, .s nm, z]
        simp only [lpCluR, Int.toNat_natCast]
        exact scan_next hlt hb
    · simp only [if_true]
      refine round_exit (by omega) ?_
      show lpCluR [.i (i : Int), v, .i (j : Int), .s g.nm, .b g.dr, .l g.N, .l g.E, .l g.C, .s nm, z] = _
      simp only [lpCluR, Int.toNat_natCast]
      exact scan_hit hlt hb
  · have hj' : j = i := by omega
    subst hj'
    simp (disch := omega) only [rt70_0, VT.ok, X.ds, X.d, Op2.ev, List.getD_cons_zero, List.getD_cons_succ, D.int_i, D.bool_b, Bool.false_eq_true, ↓reduceIte, dlt_f]
    refine round_exit (by omega) ?_
    show lpCluR [.i (j : Int), v, .i (j : Int), .s g.nm, .b g.dr, .l g.N, .l g.E, .l g.C, .s nm, z] = _
    simp only [lpCluR, Int.toNat_natCast]
    exact scan_end
theorem row_s {C : List (List D)} {c : List CT} (h : ∀ x ∈ C, FitsF (.str :: c) x) {i : Nat} (hi : i < C.length) : (el C i).getD 0 default = .s (cS (el C i) 0) := by
  have hx := h (el C i) (getD_mem [] hi)
  match e : el C i, hx with
  | a :: bs, ⟨h0, _⟩ =>
    obtain ⟨s, rfl, _⟩ := wf_str h0
    rfl
theorem m70 : Meets Try.prog 70 S70 (R 70) (F 70) := by
  refine meets_of_vt (pre := R) (Φ := F) mixed (sgAt_all (P := Try.prog) (pre := R) (Φ := F) (l := sg70) (fcm ⟨m68, fcm ⟨m93, fcm ⟨m96, (fun _ h => nomatch h)⟩⟩⟩)) Try.func70 b70 n70 (loops_n 1 k70 fun k hk => match k, hk with | 0, _ => loop_this lf70_0 loopM70_0) e70 fun ds hf hq => ?_
  obtain ⟨g, ds', rfl, h5, _, _, _, ⟨hmC, hC⟩⟩ := fitsG hf.flat
  obtain ⟨x, rfl, hx⟩ := fits1 h5
  obtain ⟨i, e, hi, h16, hok⟩ : prClu (.s g.nm :: .b g.dr :: .l g.N :: .l g.E :: .l g.C :: [x]) := hq
  have e : x = .i (i : Int) := e
  subst e
  have hi : i < g.C.length := hi
  have h16 : g.C.length ≤ 16 := h16
  have hok : okC g.C i := hok
  have hF : F 70 (.s g.nm :: .b g.dr :: .l g.N :: .l g.E :: .l g.C :: [.i (i : Int)]) = [.i (cluE g.N g.C i)] := rfl
  rw [hF]
  generalize hv : cluE g.N g.C i = res
  unfold cluE at hv
  have hnm : (g.C.getD i []).getD 0 default = .s (cS (el g.C i) 0) := row_s hC hi
  have hpre : prCluR [.i (i : Int), .i 0, .i 0, .s g.nm, .b g.dr, .l g.N, .l g.E, .l g.C, .s (cS (el g.C i) 0), (g.C.getD i []).getD 1 default] := ⟨i, _, g, _, _, 0, rfl, by omega, hi, hmC⟩
  simp (disch := omega) only [vt70, VT.ok, Nd.holds, X.outs, X.ds, X.d, Op1.ev, Op2.ev, takeD_zero, takeD_cons, List.cons_append, List.nil_append, List.getD_cons_zero, List.getD_cons_succ, D.int_i, D.bool_b, D.lst_l, ite_b, ite_or, Int.toNat_natCast, implies_true, true_and, F68, R68, F93, R93, F96, R96, F17000, R17000, dle_t, dlt_t, nameD, findD, depthD, cI, cL, Int.toNat_natCast, hnm, lpCluR, Int.toNat_zero, Nat.sub_zero]
  cases h1 : isName (cS (el g.C i) 0)
  · rw [h1] at hv
    simp only [h1, cS, List.getD_cons_zero, D.str_s, Bool.not_false, if_true]
    rw [← hv]; rfl
  · simp only [h1, if_true] at hv
    rw [if_neg (by
      show ¬ (!isName (cS (el g.C i) 0)) = true
      rw [h1]; decide)]
    refine ⟨fun _ => hpre, ?_⟩
    rcases scan_two (p := nmP g.C (cS (el g.C i) 0)) i with ⟨h2, k, _, _, _, h⟩ | ⟨h2, h⟩
    · rw [h2, Bool.or_true, if_pos rfl] at hv
      simp only [h, takeD_zero, takeD_cons, List.getD_cons_zero, List.getD_cons_succ, D.int_i, ↓reduceIte, beq_t]
      rw [← hv]
    · rw [h2, Bool.or_false] at hv
      simp (disch := omega) only [h, takeD_zero, takeD_cons, List.cons_append, List.nil_append, List.getD_cons_zero, List.getD_cons_succ, D.int_i, Bool.false_eq_true, ↓reduceIte, beq_f]
      by_cases h4 : 0 ≤ find g.N (cS (el g.C i) 0)
      · rw [if_pos (dec_t h4)] at hv
        rw [if_pos (by exact dec_t h4), ← hv]
      · rw [if_neg (dec_f h4)] at hv
        rw [if_neg (by exact dec_f h4)]
        by_cases h3 : cI (el g.C i) 1 < -1 ∨ (i : Int) ≤ cI (el g.C i) 1
        · rw [if_pos h3] at hv
          rw [if_pos (by exact dor_t h3), ← hv]
        · rw [if_neg h3] at hv
          rw [if_neg (by exact dor_f h3)]
          have hat : atC g.C i := ⟨by omega, by omega, h16, fun k hk => by
            by_cases e : k = i
            · subst e; omega
            · exact hok k (by omega)⟩
          refine ⟨fun _ => hat, ?_⟩
          by_cases h4 : 6 < depth g.C i
          · rw [if_pos h4] at hv
            rw [if_pos (by exact dec_t h4), ← hv]
          · rw [if_neg h4] at hv
            rw [if_neg (by exact dec_f h4), ← hv]
theorem fitsE {ds : List D} (h : FitsF [.int .i64, .int .i64, .int .i64, .int .i64, .str, .int .i64, .int .i64] ds) : ∃ (a b c d : Int) (s : ByteArray) (w l : Int), ds = [.i a, .i b, .i c, .i d, .s s, .i w, .i l] ∧ s.size ≤ maxLen := by
  match ds, h with
  | [d0, d1, d2, d3, d4, d5, d6], ⟨h0, h1, h2, h3, h4, h5, h6, _⟩ =>
    obtain ⟨a, rfl, _⟩ := wf_i64 h0
    obtain ⟨b, rfl, _⟩ := wf_i64 h1
    obtain ⟨c, rfl, _⟩ := wf_i64 h2
    obtain ⟨d, rfl, _⟩ := wf_i64 h3
    obtain ⟨s, rfl, hs⟩ := wf_str h4
    obtain ⟨w, rfl, _⟩ := wf_i64 h5
    obtain ⟨l, rfl, _⟩ := wf_i64 h6
    exact ⟨a, b, c, d, s, w, l, rfl, hs⟩
theorem m55 : Meets Try.prog 55 S55 (R 55) (F 55) := by
  refine meets_of_vt (pre := R) (Φ := F) mixed (sgAt_all (P := Try.prog) (pre := R) (Φ := F) (l := sg55) (fcm ⟨m82, (fun _ h => nomatch h)⟩)) Try.func55 b55 n55 (loops_n 0 k55 fun k hk => by omega) e55 fun ds hf hq => ?_
  obtain ⟨g, ds', rfl, h5, _⟩ := fitsG hf.flat
  obtain ⟨a, b, c, d, s, w, l, rfl, _⟩ := fitsE h5
  have hF : F 55 (.s g.nm :: .b g.dr :: .l g.N :: .l g.E :: .l g.C :: [.i a, .i b, .i c, .i d, .s s, .i w, .i l]) = [.i (edgeE g.N [.i a, .i b, .i c, .i d, .s s, .i w, .i l])] := rfl
  rw [hF]
  generalize hv : edgeE g.N [.i a, .i b, .i c, .i d, .s s, .i w, .i l] = res
  simp only [edgeE, cI, cS, cL, List.getD_cons_zero, List.getD_cons_succ, D.int_i, D.str_s] at hv
  generalize hA : (((el g.N a.toNat).getD 5 default).lst.length : Int) = A at hv
  generalize hB : (((el g.N b.toNat).getD 5 default).lst.length : Int) = B at hv
  have hA' : (((g.N.getD a.toNat []).getD 5 default).lst.length : Int) = A := hA
  have hB' : (((g.N.getD b.toNat []).getD 5 default).lst.length : Int) = B := hB
  by_cases h1 : 0 ≤ a ∧ a < g.N.length ∧ 0 ≤ b ∧ b < g.N.length ∧ -1 ≤ c ∧ c < A ∧ -1 ≤ d ∧ d < B
  · rw [if_pos h1] at hv
    simp (disch := omega) only [vt55, VT.ok, Nd.holds, X.outs, X.ds, X.d, Op1.ev, Op2.ev, takeD_zero, takeD_cons, List.cons_append, List.nil_append, List.getD_cons_zero, List.getD_cons_succ, D.int_i, D.bool_b, D.lst_l, D.str_s, ite_b, ite_or, imin, imax, Bool.false_eq_true, implies_true, true_and, F82, R82, ↓reduceIte, dle_t, dle_f, dlt_t, dlt_f, hA', hB', labelD, cS, Bool.not_false]
    by_cases h2 : labelE s = 0
    · rw [if_pos h2] at hv
      rw [if_neg (by exact bne_f h2)]
      by_cases h3 : 1 ≤ w ∧ w ≤ 1000 ∧ 1 ≤ l ∧ l ≤ 64
      · rw [if_pos h3] at hv
        simp (disch := omega) only [↓reduceIte, dlt_f, Bool.or_self, Bool.false_eq_true]
        rw [← hv]
      · rw [if_neg h3] at hv
        rw [if_pos (by
          simp only [Bool.or_eq_true, decide_eq_true_eq]
          omega), ← hv]
    · rw [if_neg h2] at hv
      rw [if_pos (by exact bne_t h2), ← hv]
  · rw [if_neg h1] at hv
    have hc : ((((decide (min a b < 0) || decide ((g.N.length : Int) ≤ max a b)) || decide (min c d < -1)) || decide (A ≤ c)) || decide (B ≤ d)) = true := by
      simp only [Bool.or_eq_true, decide_eq_true_eq]
      omega
    simp only [vt55, VT.ok, Nd.holds, X.outs, X.ds, X.d, Op1.ev, Op2.ev, List.cons_append, List.nil_append, List.getD_cons_zero, List.getD_cons_succ, D.int_i, D.bool_b, D.lst_l, ite_b, ite_or, imin, imax, if_true, implies_true, true_and, takeD1_0, F82, R82, hA', hB', hc]
    simp only [Bool.not_eq_true', Bool.or_eq_false_iff, decide_eq_false_iff_not, decide_eq_true_eq]
    exact ⟨fun h => by omega, fun h => by omega, fun h => by omega, fun h => by omega, by rw [hv]⟩
theorem m71 : Meets Try.prog 71 S71 (R 71) (F 71) := by
  refine meets_of_vt (pre := R) (Φ := F) mixed (sgAt_all (P := Try.prog) (pre := R) (Φ := F) (l := sg71) (fcm ⟨m94, (fun _ h => nomatch h)⟩)) Try.func71 b71 n71 (loops_n 0 k71 fun k hk => by omega) e71 fun ds hf hq => ?_
  obtain ⟨g, ds', rfl, h5, _⟩ := fitsG hf.flat
  obtain ⟨a, b, c, d, s, w, l, rfl, _⟩ := fitsE h5
  have hF : F 71 (.s g.nm :: .b g.dr :: .l g.N :: .l g.E :: .l g.C :: [.i a, .i b, .i c, .i d, .s s, .i w, .i l]) = [.i (edgeE g.N [.i a, .i b, .i c, .i d, .s s, .i w, .i l])] := rfl
  rw [hF]
  generalize hv : edgeE g.N [.i a, .i b, .i c, .i d, .s s, .i w, .i l] = res
  simp only [edgeE, cI, cS, cL, List.getD_cons_zero, List.getD_cons_succ, D.int_i, D.str_s] at hv
  generalize hA : (((el g.N a.toNat).getD 5 default).lst.length : Int) = A at hv
  generalize hB : (((el g.N b.toNat).getD 5 default).lst.length : Int) = B at hv
  have hA' : (((g.N.getD a.toNat []).getD 5 default).lst.length : Int) = A := hA
  have hB' : (((g.N.getD b.toNat []).getD 5 default).lst.length : Int) = B := hB
  by_cases h0 : 0 ≤ a ∧ a < g.N.length ∧ 0 ≤ b ∧ b < g.N.length
  · by_cases h1 : -1 ≤ c ∧ c < A ∧ -1 ≤ d ∧ d < B
    · rw [if_pos ⟨h0.1, h0.2.1, h0.2.2.1, h0.2.2.2, h1⟩] at hv
      simp (disch := omega) only [vt71, VT.ok, Nd.holds, X.outs, X.ds, X.d, Op1.ev, Op2.ev, takeD_zero, takeD_cons, List.cons_append, List.nil_append, List.getD_cons_zero, List.getD_cons_succ, D.int_i, D.bool_b, D.lst_l, D.str_s, ite_b, ite_or, Bool.false_eq_true, implies_true, true_and, F94, R94, ↓reduceIte, dle_t, dle_f, dlt_t, dlt_f, hA', hB', plainD, cS, Bool.not_false]
      by_cases h4 : 32 < (s.size : Int)
      · have h3 : labelE s = 2 := by rw [labelE, if_pos h4]
        rw [h3, if_neg (by decide)] at hv
        rw [if_pos (by exact dec_t h4), ← hv]
      · rw [if_neg (by exact dec_f h4)]
        cases h6 : plainB s
        · have h3 : labelE s = 7 := by rw [labelE, if_neg h4, h6]; rfl
          rw [h3, if_neg (by decide)] at hv
          simp only [Bool.not_false, Bool.true_or, if_true]
          rw [← hv]
        · have h3 : labelE s = 0 := by rw [labelE, if_neg h4, h6]; rfl
          rw [h3, if_pos rfl] at hv
          simp only [Bool.not_true, Bool.false_or]
          by_cases h3 : 1 ≤ w ∧ w ≤ 1000 ∧ 1 ≤ l ∧ l ≤ 64
          · rw [if_pos h3] at hv
            simp (disch := omega) only [↓reduceIte, dlt_f, Bool.or_self, Bool.false_eq_true]
            rw [← hv]
          · rw [if_neg h3] at hv
            rw [if_pos (by
              simp only [Bool.or_eq_true, decide_eq_true_eq]
              omega), ← hv]
    · rw [if_neg (by omega)] at hv
      have hc : (((decide (c < -1) || decide (A ≤ c)) || decide (d < -1)) || decide (B ≤ d)) = true := by
        simp only [Bool.or_eq_true, decide_eq_true_eq]
        omega
      simp (disch := omega) only [vt71, VT.ok, Nd.holds, X.ds, X.d, Op1.ev, Op2.ev, List.getD_cons_zero, List.getD_cons_succ, D.int_i, D.bool_b, D.lst_l, ite_b, ite_or, Bool.false_eq_true, implies_true, true_and, ↓reduceIte, dle_t, dle_f, dlt_t, dlt_f, hA', hB', hc]
      rw [hv]
  · rw [if_neg (by omega)] at hv
    have hc : (((decide (a < 0) || decide ((g.N.length : Int) ≤ a)) || decide (b < 0)) || decide ((g.N.length : Int) ≤ b)) = true := by
      simp only [Bool.or_eq_true, decide_eq_true_eq]
      omega
    simp only [vt71, VT.ok, Nd.holds, X.outs, X.ds, X.d, Op1.ev, Op2.ev, List.cons_append, List.nil_append, List.getD_cons_zero, List.getD_cons_succ, D.int_i, D.bool_b, D.lst_l, D.str_s, ite_b, ite_or, if_true, implies_true, true_and, takeD1_0, F94, R94, hc]
    rw [hv]
end Go.Proofs.Ytindllmeeckfcaa.rv
namespace Go.Proofs.Ytindllmeeckfcaa.rv
set_option maxRecDepth 10000
open Go.RV
theorem edgeD7 (a b : D) (N : List (List D)) (c d : D) (x : List D) : edgeD [a, b, .l N, c, d, x.getD 0 default, x.getD 1 default, x.getD 2 default, x.getD 3 default, x.getD 4 default, x.getD 5 default, x.getD 6 default] = [.i (edgeE N x)] := rfl
theorem loopM26_0 : LoopMeets Try.prog F (R L26_0.key) L26_0 lb26_0 := by
  refine loop_meets (pre := R) mixed (sgAt_all (P := Try.prog) (pre := R) (Φ := F) (l := sg26) (fcm ⟨m52, fcm ⟨m53, fcm ⟨m54, fcm ⟨m55, (fun _ h => nomatch h)⟩⟩⟩⟩)) (loops_n 0 lk26_0 fun k hk => by omega) L26_0 (fun ρ => ((ρ.getD 1 default).int - (ρ.getD 2 default).int).toNat) le26_0 fun ρ _ hq => ?_
  obtain ⟨v, g, j, rfl, hj, hm⟩ : prV0 ρ := hq
  rw [maxLen_val] at hm
  by_cases hlt : j < g.N.length
  · have hN : nodeE g.N g.C j = 0 → RoundOk F (R L26_0.key) (fun ρ => ((ρ.getD 1 default).int - (ρ.getD 2 default).int).toNat) L26_0 [v, .i (g.N.length : Int), .i (j : Int), .s g.nm, .b g.dr, .l g.N, .l g.E, .l g.C] [.i (-1), v, .i ((j + 1 : Nat) : Int)] := fun h0 => by
      refine round_next ⟨⟨v, g, j + 1, rfl, by omega, hm⟩, ?_, ?_⟩
      · show ((g.N.length : Int) - ((j + 1 : Nat) : Int)).toNat < ((g.N.length : Int) - (j : Int)).toNat
        omega
      · show lpV0 [v, .i (g.N.length : Int), .i ((j + 1 : Nat) : Int), .s g.nm, .b g.dr, .l g.N, .l g.E, .l g.C] = lpV0 [v, .i (g.N.length : Int), .i (j : Int), .s g.nm, .b g.dr, .l g.N, .l g.E, .l g.C]
        simp only [lpV0, errLp, Int.toNat_natCast]
        exact scan_next hlt (by simp only [er, h0]; rfl)
    have hX : ∀ z : Int, nodeE g.N g.C j = z → z ≠ 0 → RoundOk F (R L26_0.key) (fun ρ => ((ρ.getD 1 default).int - (ρ.getD 2 default).int).toNat) L26_0 [v, .i (g.N.length : Int), .i (j : Int), .s g.nm, .b g.dr, .l g.N, .l g.E, .l g.C] [.i 0, .i z, .i (j : Int)] := fun z h0 hz => by
      refine round_exit (by omega) ?_
      show lpV0 [v, .i (g.N.length : Int), .i (j : Int), .s g.nm, .b g.dr, .l g.N, .l g.E, .l g.C] = _
      simp only [lpV0, errLp, Int.toNat_natCast]
      rw [← h0]
      exact scan_hit hlt (by simp only [er, h0]; simpa using hz)
    have hpre : prNode [.s g.nm, .b g.dr, .l g.N, .l g.E, .l g.C, .i (j : Int)] := ⟨j, rfl, hlt⟩
    simp (disch := omega) only [rt26_0, VT.ok, Nd.holds, X.outs, X.ds, X.d, Op1.ev, Op2.ev, takeD_zero, takeD_cons, List.cons_append, List.nil_append, List.getD_cons_zero, List.getD_cons_succ, D.int_i, D.bool_b, D.lst_l, Int.toNat_natCast, F53, R53, ↓reduceIte, dlt_t, w64', nodeD, cL, cI, Int.toNat_natCast]
    refine ⟨fun _ => hpre, ?_⟩
    by_cases h : nodeE g.N g.C j = 0
    · rw [if_neg (by exact bne_f h)]
      exact hN h
    · rw [if_pos (by exact bne_t h)]
      exact hX _ rfl h
  · have hj' : j = g.N.length := by omega
    subst hj'
    simp (disch := omega) only [rt26_0, VT.ok, X.ds, X.d, Op2.ev, List.getD_cons_zero, List.getD_cons_succ, D.int_i, D.bool_b, Bool.false_eq_true, ↓reduceIte, dlt_f]
    refine round_exit (by omega) ?_
    show lpV0 [v, .i (g.N.length : Int), .i (g.N.length : Int), .s g.nm, .b g.dr, .l g.N, .l g.E, .l g.C] = _
    simp only [lpV0, errLp, Int.toNat_natCast]
    exact scan_end
theorem loopM42_0 : LoopMeets Try.prog F (R L42_0.key) L42_0 lb42_0 := by
  refine loop_meets (pre := R) mixed (sgAt_all (P := Try.prog) (pre := R) (Φ := F) (l := sg42) (fcm ⟨m68, fcm ⟨m69, fcm ⟨m70, fcm ⟨m71, (fun _ h => nomatch h)⟩⟩⟩⟩)) (loops_n 0 lk42_0 fun k hk => by omega) L42_0 (fun ρ => (((ρ.getD 4 default).lst.length : Int) - (ρ.getD 1 default).int).toNat) le42_0 fun ρ _ hq => ?_
  obtain ⟨v, g, j, rfl, hj, hm⟩ : prW0 ρ := hq
  rw [maxLen_val] at hm
  by_cases hlt : j < g.N.length
  · have hN : nodeE g.N g.C j = 0 → RoundOk F (R L42_0.key) (fun ρ => (((ρ.getD 4 default).lst.length : Int) - (ρ.getD 1 default).int).toNat) L42_0 [v, .i (j : Int), .s g.nm, .b g.dr, .l g.N, .l g.E, .l g.C] [.i (-1), v, .i ((j + 1 : Nat) : Int)] := fun h0 => by
      refine round_next ⟨⟨v, g, j + 1, rfl, by omega, hm⟩, ?_, ?_⟩
      · show ((g.N.length : Int) - ((j + 1 : Nat) : Int)).toNat < ((g.N.length : Int) - (j : Int)).toNat
        omega
      · show lpW0 [v, .i ((j + 1 : Nat) : Int), .s g.nm, .b g.dr, .l g.N, .l g.E, .l g.C] = lpW0 [v, .i (j : Int), .s g.nm, .b g.dr, .l g.N, .l g.E, .l g.C]
        simp only [lpW0, errLp, Int.toNat_natCast]
        exact scan_next hlt (by simp only [er, h0]; rfl)
    have hX : ∀ z : Int, nodeE g.N g.C j = z → z ≠ 0 → RoundOk F (R L42_0.key) (fun ρ => (((ρ.getD 4 default).lst.length : Int) - (ρ.getD 1 default).int).toNat) L42_0 [v, .i (j : Int), .s g.nm, .b g.dr, .l g.N, .l g.E, .l g.C] [.i 0, .i z, .i (j : Int)] := fun z h0 hz => by
      refine round_exit (by omega) ?_
      show lpW0 [v, .i (j : Int), .s g.nm, .b g.dr, .l g.N, .l g.E, .l g.C] = _
      simp only [lpW0, errLp, Int.toNat_natCast]
      rw [← h0]
      exact scan_hit hlt (by simp only [er, h0]; simpa using hz)
    have hpre : prNode [.s g.nm, .b g.dr, .l g.N, .l g.E, .l g.C, .i (j : Int)] := ⟨j, rfl, hlt⟩
    simp (disch := omega) only [rt42_0, VT.ok, Nd.holds, X.outs, X.ds, X.d, Op1.ev, Op2.ev, takeD_zero, takeD_cons, List.cons_append, List.nil_append, List.getD_cons_zero, List.getD_cons_succ, D.int_i, D.bool_b, D.lst_l, Int.toNat_natCast, F69, R69, ↓reduceIte, dlt_t, w64', nodeD, cL, cI, Int.toNat_natCast]
    refine ⟨fun _ => hpre, ?_⟩
    by_cases h : nodeE g.N g.C j = 0
    · rw [if_neg (by exact bne_f h)]
      exact hN h
    · rw [if_pos (by exact bne_t h)]
      exact hX _ rfl h
  · have hj' : j = g.N.length := by omega
    subst hj'
    simp (disch := omega) only [rt42_0, VT.ok, X.ds, X.d, Op1.ev, Op2.ev, List.getD_cons_zero, List.getD_cons_succ, D.int_i, D.bool_b, D.lst_l, Bool.false_eq_true, ↓reduceIte, dlt_f]
    refine round_exit (by omega) ?_
    show lpW0 [v, .i (g.N.length : Int), .s g.nm, .b g.dr, .l g.N, .l g.E, .l g.C] = _
    simp only [lpW0, errLp, Int.toNat_natCast]
    exact scan_end
theorem loopM26_1 : LoopMeets Try.prog F (R L26_1.key) L26_1 lb26_1 := by
  refine loop_meets (pre := R) mixed (sgAt_all (P := Try.prog) (pre := R) (Φ := F) (l := sg26) (fcm ⟨m52, fcm ⟨m53, fcm ⟨m54, fcm ⟨m55, (fun _ h => nomatch h)⟩⟩⟩⟩)) (loops_n 0 lk26_1 fun k hk => by omega) L26_1 (fun ρ => ((ρ.getD 1 default).int - (ρ.getD 2 default).int).toNat) le26_1 fun ρ _ hq => ?_
  obtain ⟨v, g, j, rfl, hj, h16, hk⟩ : prV1 ρ := hq
  by_cases hlt : j < g.C.length
  · have hN : cluE g.N g.C j = 0 → RoundOk F (R L26_1.key) (fun ρ => ((ρ.getD 1 default).int - (ρ.getD 2 default).int).toNat) L26_1 [v, .i (g.C.length : Int), .i (j : Int), .s g.nm, .b g.dr, .l g.N, .l g.E, .l g.C] [.i (-1), v, .i ((j + 1 : Nat) : Int)] := fun h0 => by
      refine round_next ⟨⟨v, g, j + 1, rfl, by omega, h16, by intro k hk'; rcases Nat.lt_or_ge k j with e | e; exact hk k e; rw [show k = j by omega]; exact h0⟩, ?_, ?_⟩
      · show ((g.C.length : Int) - ((j + 1 : Nat) : Int)).toNat < ((g.C.length : Int) - (j : Int)).toNat
        omega
      · show lpV1 [v, .i (g.C.length : Int), .i ((j + 1 : Nat) : Int), .s g.nm, .b g.dr, .l g.N, .l g.E, .l g.C] = lpV1 [v, .i (g.C.length : Int), .i (j : Int), .s g.nm, .b g.dr, .l g.N, .l g.E, .l g.C]
        simp only [lpV1, errLp, Int.toNat_natCast]
        exact scan_next hlt (by simp only [er, h0]; rfl)
    have hX : ∀ z : Int, cluE g.N g.C j = z → z ≠ 0 → RoundOk F (R L26_1.key) (fun ρ => ((ρ.getD 1 default).int - (ρ.getD 2 default).int).toNat) L26_1 [v, .i (g.C.length : Int), .i (j : Int), .s g.nm, .b g.dr, .l g.N, .l g.E, .l g.C] [.i 0, .i z, .i (j : Int)] := fun z h0 hz => by
      refine round_exit (by omega) ?_
      show lpV1 [v, .i (g.C.length : Int), .i (j : Int), .s g.nm, .b g.dr, .l g.N, .l g.E, .l g.C] = _
      simp only [lpV1, errLp, Int.toNat_natCast]
      rw [← h0]
      exact scan_hit hlt (by simp only [er, h0]; simpa using hz)
    have hpre : prClu [.s g.nm, .b g.dr, .l g.N, .l g.E, .l g.C, .i (j : Int)] := ⟨j, rfl, hlt, h16, okC_of hk⟩
    simp (disch := omega) only [rt26_1, VT.ok, Nd.holds, X.outs, X.ds, X.d, Op1.ev, Op2.ev, takeD_zero, takeD_cons, List.cons_append, List.nil_append, List.getD_cons_zero, List.getD_cons_succ, D.int_i, D.bool_b, D.lst_l, Int.toNat_natCast, F54, R54, ↓reduceIte, dlt_t, w64', cluD, cL, cI, Int.toNat_natCast]
    refine ⟨fun _ => hpre, ?_⟩
    by_cases h : cluE g.N g.C j = 0
    · rw [if_neg (by exact bne_f h)]
      exact hN h
    · rw [if_pos (by exact bne_t h)]
      exact hX _ rfl h
  · have hj' : j = g.C.length := by omega
    subst hj'
    simp (disch := omega) only [rt26_1, VT.ok, X.ds, X.d, Op2.ev, List.getD_cons_zero, List.getD_cons_succ, D.int_i, D.bool_b, Bool.false_eq_true, ↓reduceIte, dlt_f]
    refine round_exit (by omega) ?_
    show lpV1 [v, .i (g.C.length : Int), .i (g.C.length : Int), .s g.nm, .b g.dr, .l g.N, .l g.E, .l g.C] = _
    simp only [lpV1, errLp, Int.toNat_natCast]
    exact scan_end
theorem loopM42_1 : LoopMeets Try.prog F (R L42_1.key) L42_1 lb42_1 := by
  refine loop_meets (pre := R) mixed (sgAt_all (P := Try.prog) (pre := R) (Φ := F) (l := sg42) (fcm ⟨m68, fcm ⟨m69, fcm ⟨m70, fcm ⟨m71, (fun _ h => nomatch h)⟩⟩⟩⟩)) (loops_n 0 lk42_1 fun k hk => by omega) L42_1 (fun ρ => (((ρ.getD 6 default).lst.length : Int) - (ρ.getD 1 default).int).toNat) le42_1 fun ρ _ hq => ?_
  obtain ⟨v, g, j, rfl, hj, h16, hk⟩ : prW1 ρ := hq
  by_cases hlt : j < g.C.length
  · have hN : cluE g.N g.C j = 0 → RoundOk F (R L42_1.key) (fun ρ => (((ρ.getD 6 default).lst.length : Int) - (ρ.getD 1 default).int).toNat) L42_1 [v, .i (j : Int), .s g.nm, .b g.dr, .l g.N, .l g.E, .l g.C] [.i (-1), v, .i ((j + 1 : Nat) : Int)] := fun h0 => by
      refine round_next ⟨⟨v, g, j + 1, rfl, by omega, h16, by intro k hk'; rcases Nat.lt_or_ge k j with e | e; exact hk k e; rw [show k = j by omega]; exact h0⟩, ?_, ?_⟩
      · show ((g.C.length : Int) - ((j + 1 : Nat) : Int)).toNat < ((g.C.length : Int) - (j : Int)).toNat
        omega
      · show lpW1 [v, .i ((j + 1 : Nat) : Int), .s g.nm, .b g.dr, .l g.N, .l g.E, .l g.C] = lpW1 [v, .i (j : Int), .s g.nm, .b g.dr, .l g.N, .l g.E, .l g.C]
        simp only [lpW1, errLp, Int.toNat_natCast]
        exact scan_next hlt (by simp only [er, h0]; rfl)
    have hX : ∀ z : Int, cluE g.N g.C j = z → z ≠ 0 → RoundOk F (R L42_1.key) (fun ρ => (((ρ.getD 6 default).lst.length : Int) - (ρ.getD 1 default).int).toNat) L42_1 [v, .i (j : Int), .s g.nm, .b g.dr, .l g.N, .l g.E, .l g.C] [.i 0, .i z, .i (j : Int)] := fun z h0 hz => by
      refine round_exit (by omega) ?_
      show lpW1 [v, .i (j : Int), .s g.nm, .b g.dr, .l g.N, .l g.E, .l g.C] = _
      simp only [lpW1, errLp, Int.toNat_natCast]
      rw [← h0]
      exact scan_hit hlt (by simp only [er, h0]; simpa using hz)
    have hpre : prClu [.s g.nm, .b g.dr, .l g.N, .l g.E, .l g.C, .i (j : Int)] := ⟨j, rfl, hlt, h16, okC_of hk⟩
    simp (disch := omega) only [rt42_1, VT.ok, Nd.holds, X.outs, X.ds, X.d, Op1.ev, Op2.ev, takeD_zero, takeD_cons, List.cons_append, List.nil_append, List.getD_cons_zero, List.getD_cons_succ, D.int_i, D.bool_b, D.lst_l, Int.toNat_natCast, F70, R70, ↓reduceIte, dlt_t, w64', cluD, cL, cI, Int.toNat_natCast]
    refine ⟨fun _ => hpre, ?_⟩
    by_cases h : cluE g.N g.C j = 0
    · rw [if_neg (by exact bne_f h)]
      exact hN h
    · rw [if_pos (by exact bne_t h)]
      exact hX _ rfl h
  · have hj' : j = g.C.length := by omega
    subst hj'
    simp (disch := omega) only [rt42_1, VT.ok, X.ds, X.d, Op1.ev, Op2.ev, List.getD_cons_zero, List.getD_cons_succ, D.int_i, D.bool_b, D.lst_l, Bool.false_eq_true, ↓reduceIte, dlt_f]
    refine round_exit (by omega) ?_
    show lpW1 [v, .i (g.C.length : Int), .s g.nm, .b g.dr, .l g.N, .l g.E, .l g.C] = _
    simp only [lpW1, errLp, Int.toNat_natCast]
    exact scan_end
theorem loopM26_2 : LoopMeets Try.prog F (R L26_2.key) L26_2 lb26_2 := by
  refine loop_meets (pre := R) mixed (sgAt_all (P := Try.prog) (pre := R) (Φ := F) (l := sg26) (fcm ⟨m52, fcm ⟨m53, fcm ⟨m54, fcm ⟨m55, (fun _ h => nomatch h)⟩⟩⟩⟩)) (loops_n 0 lk26_2 fun k hk => by omega) L26_2 (fun ρ => ((ρ.getD 2 default).int - (ρ.getD 3 default).int).toNat) le26_2 fun ρ _ hq => ?_
  obtain ⟨v, g, j, rfl, hj, hm⟩ : prV2 ρ := hq
  rw [maxLen_val] at hm
  by_cases hlt : j < g.E.length
  · have hN : edgeE g.N (el g.E j) = 0 → RoundOk F (R L26_2.key) (fun ρ => ((ρ.getD 2 default).int - (ρ.getD 3 default).int).toNat) L26_2 [v, .l g.E, .i (g.E.length : Int), .i (j : Int), .s g.nm, .b g.dr, .l g.N, .l g.E, .l g.C] [.i (-1), v, .i ((j + 1 : Nat) : Int)] := fun h0 => by
      refine round_next ⟨⟨v, g, j + 1, rfl, by omega, hm⟩, ?_, ?_⟩
      · show ((g.E.length : Int) - ((j + 1 : Nat) : Int)).toNat < ((g.E.length : Int) - (j : Int)).toNat
        omega
      · show lpV2 [v, .l g.E, .i (g.E.length : Int), .i ((j + 1 : Nat) : Int), .s g.nm, .b g.dr, .l g.N, .l g.E, .l g.C] = lpV2 [v, .l g.E, .i (g.E.length : Int), .i (j : Int), .s g.nm, .b g.dr, .l g.N, .l g.E, .l g.C]
        simp only [lpV2, errLp, Int.toNat_natCast]
        exact scan_next hlt (by simp only [er, h0]; rfl)
    have hX : ∀ z : Int, edgeE g.N (el g.E j) = z → z ≠ 0 → RoundOk F (R L26_2.key) (fun ρ => ((ρ.getD 2 default).int - (ρ.getD 3 default).int).toNat) L26_2 [v, .l g.E, .i (g.E.length : Int), .i (j : Int), .s g.nm, .b g.dr, .l g.N, .l g.E, .l g.C] [.i 0, .i z, .i (j : Int)] := fun z h0 hz => by
      refine round_exit (by omega) ?_
      show lpV2 [v, .l g.E, .i (g.E.length : Int), .i (j : Int), .s g.nm, .b g.dr, .l g.N, .l g.E, .l g.C] = _
      simp only [lpV2, errLp, Int.toNat_natCast]
      rw [← h0]
      exact scan_hit hlt (by simp only [er, h0]; simpa using hz)
    simp (disch := omega) only [rt26_2, VT.ok, Nd.holds, X.outs, X.ds, X.d, Op1.ev, Op2.ev, takeD_zero, takeD_cons, List.cons_append, List.nil_append, List.getD_cons_zero, List.getD_cons_succ, D.int_i, D.bool_b, D.lst_l, Int.toNat_natCast, implies_true, true_and, F55, R55, ↓reduceIte, dle_t, dlt_t, w64', edgeD7, Int.toNat_natCast]
    by_cases h : edgeE g.N (el g.E j) = 0
    · rw [if_neg (by exact bne_f h)]
      exact hN h
    · rw [if_pos (by exact bne_t h)]
      exact hX _ rfl h
  · have hj' : j = g.E.length := by omega
    subst hj'
    simp (disch := omega) only [rt26_2, VT.ok, X.ds, X.d, Op2.ev, List.getD_cons_zero, List.getD_cons_succ, D.int_i, D.bool_b, Bool.false_eq_true, ↓reduceIte, dlt_f]
    refine round_exit (by omega) ?_
    show lpV2 [v, .l g.E, .i (g.E.length : Int), .i (g.E.length : Int), .s g.nm, .b g.dr, .l g.N, .l g.E, .l g.C] = _
    simp only [lpV2, errLp, Int.toNat_natCast]
    exact scan_end
theorem loopM42_2 : LoopMeets Try.prog F (R L42_2.key) L42_2 lb42_2 := by
  refine loop_meets (pre := R) mixed (sgAt_all (P := Try.prog) (pre := R) (Φ := F) (l := sg42) (fcm ⟨m68, fcm ⟨m69, fcm ⟨m70, fcm ⟨m71, (fun _ h => nomatch h)⟩⟩⟩⟩)) (loops_n 0 lk42_2 fun k hk => by omega) L42_2 (fun ρ => (((ρ.getD 5 default).lst.length : Int) - (ρ.getD 1 default).int).toNat) le42_2 fun ρ _ hq => ?_
  obtain ⟨v, g, j, rfl, hj, hm⟩ : prW2 ρ := hq
  rw [maxLen_val] at hm
  by_cases hlt : j < g.E.length
  · have hN : edgeE g.N (el g.E j) = 0 → RoundOk F (R L42_2.key) (fun ρ => (((ρ.getD 5 default).lst.length : Int) - (ρ.getD 1 default).int).toNat) L42_2 [v, .i (j : Int), .s g.nm, .b g.dr, .l g.N, .l g.E, .l g.C] [.i (-1), v, .i ((j + 1 : Nat) : Int)] := fun h0 => by
      refine round_next ⟨⟨v, g, j + 1, rfl, by omega, hm⟩, ?_, ?_⟩
      · show ((g.E.length : Int) - ((j + 1 : Nat) : Int)).toNat < ((g.E.length : Int) - (j : Int)).toNat
        omega
      · show lpW2 [v, .i ((j + 1 : Nat) : Int), .s g.nm, .b g.dr, .l g.N, .l g.E, .l g.C] = lpW2 [v, .i (j : Int), .s g.nm, .b g.dr, .l g.N, .l g.E, .l g.C]
        simp only [lpW2, errLp, Int.toNat_natCast]
        exact scan_next hlt (by simp only [er, h0]; rfl)
    have hX : ∀ z : Int, edgeE g.N (el g.E j) = z → z ≠ 0 → RoundOk F (R L42_2.key) (fun ρ => (((ρ.getD 5 default).lst.length : Int) - (ρ.getD 1 default).int).toNat) L42_2 [v, .i (j : Int), .s g.nm, .b g.dr, .l g.N, .l g.E, .l g.C] [.i 0, .i z, .i (j : Int)] := fun z h0 hz => by
      refine round_exit (by omega) ?_
      show lpW2 [v, .i (j : Int), .s g.nm, .b g.dr, .l g.N, .l g.E, .l g.C] = _
      simp only [lpW2, errLp, Int.toNat_natCast]
      rw [← h0]
      exact scan_hit hlt (by simp only [er, h0]; simpa using hz)
    simp (disch := omega) only [rt42_2, VT.ok, Nd.holds, X.outs, X.ds, X.d, Op1.ev, Op2.ev, takeD_zero, takeD_cons, List.cons_append, List.nil_append, List.getD_cons_zero, List.getD_cons_succ, D.int_i, D.bool_b, D.lst_l, Int.toNat_natCast, implies_true, true_and, F71, R71, ↓reduceIte, dle_t, dlt_t, w64', edgeD7, Int.toNat_natCast]
    by_cases h : edgeE g.N (el g.E j) = 0
    · rw [if_neg (by exact bne_f h)]
      exact hN h
    · rw [if_pos (by exact bne_t h)]
      exact hX _ rfl h
  · have hj' : j = g.E.length := by omega
    subst hj'
    simp (disch := omega) only [rt42_2, VT.ok, X.ds, X.d, Op1.ev, Op2.ev, List.getD_cons_zero, List.getD_cons_succ, D.int_i, D.bool_b, D.lst_l, Bool.false_eq_true, ↓reduceIte, dlt_f]
    refine round_exit (by omega) ?_
    show lpW2 [v, .i (g.E.length : Int), .s g.nm, .b g.dr, .l g.N, .l g.E, .l g.C] = _
    simp only [lpW2, errLp, Int.toNat_natCast]
    exact scan_end
theorem m26 : Meets Try.prog 26 S26 (R 26) (F 26) := by
  refine meets_of_vt (pre := R) (Φ := F) mixed (sgAt_all (P := Try.prog) (pre := R) (Φ := F) (l := sg26) (fcm ⟨m52, fcm ⟨m53, fcm ⟨m54, fcm ⟨m55, (fun _ h => nomatch h)⟩⟩⟩⟩)) Try.func26 b26 n26 (loops_n 3 k26 fun k hk => match k, hk with | 0, _ => loop_this lf26_0 loopM26_0 | 1, _ => loop_this lf26_1 loopM26_1 | 2, _ => loop_this lf26_2 loopM26_2) e26 fun ds hf hq => ?_
  obtain ⟨g, ds', rfl, h5, hnm, ⟨hmN, _⟩, ⟨hmE, _⟩, ⟨hmC, _⟩⟩ := fitsG hf.flat
  have e0 := fits0 h5
  subst e0
  have hF : F 26 [.s g.nm, .b g.dr, .l g.N, .l g.E, .l g.C] = [.i (validE g)] := rfl
  rw [hF]
  generalize hv : validE g = res
  unfold validE at hv
  by_cases h0 : 64 < (g.N.length : Int) ∨ 256 < (g.E.length : Int) ∨ 16 < (g.C.length : Int)
  · rw [if_pos h0] at hv
    have hc : ((decide (64 < (g.N.length : Int)) || decide (256 < (g.E.length : Int))) || decide (16 < (g.C.length : Int))) = true := by
      simp only [Bool.or_eq_true, decide_eq_true_eq]
      omega
    simp only [vt26, VT.ok, Nd.holds, X.outs, X.ds, X.d, Op1.ev, Op2.ev, List.cons_append, List.nil_append, List.getD_cons_zero, List.getD_cons_succ, D.int_i, D.bool_b, D.lst_l, ite_b, ite_or, if_true, takeD1_0, hc]
    rw [hv]
  · rw [if_neg h0] at hv
    have p0 : prV0 [.i 0, .i (g.N.length : Int), .i 0, .s g.nm, .b g.dr, .l g.N, .l g.E, .l g.C] := ⟨_, g, 0, rfl, by omega, hmN⟩
    have p1 : ∀ v, prV1 [v, .i (g.C.length : Int), .i 0, .s g.nm, .b g.dr, .l g.N, .l g.E, .l g.C] := fun v => ⟨_, g, 0, rfl, by omega, by omega, fun k hk => by omega⟩
    have p2 : ∀ v, prV2 [v, .l g.E, .i (g.E.length : Int), .i 0, .s g.nm, .b g.dr, .l g.N, .l g.E, .l g.C] := fun v => ⟨_, g, 0, rfl, by omega, hmE⟩
    simp (disch := omega) only [vt26, VT.ok, Nd.holds, X.outs, X.ds, X.d, Op1.ev, Op2.ev, takeD_zero, takeD_cons, List.cons_append, List.nil_append, List.getD_cons_zero, List.getD_cons_succ, D.int_i, D.bool_b, D.lst_l, D.str_s, Bool.false_eq_true, implies_true, true_and, F52, R52, F12600, R12600, F12601, R12601, F12602, R12602, ↓reduceIte, dlt_f, nameD, cS, lpV0, lpV1, lpV2, Int.toNat_zero]
    cases h1 : isName g.nm
    · rw [h1] at hv
      simp only [Bool.not_false, if_true]
      rw [← hv]; rfl
    · rw [h1] at hv
      simp only [if_true, Bool.not_true, Bool.false_eq_true, if_false] at hv ⊢
      refine ⟨fun _ => p0, ?_⟩
      rcases errLp_two (nodeE g.N g.C) (.i 0) g.N.length with ⟨h2, h3⟩ | ⟨h2, _, h3⟩
      · rw [if_neg h2] at hv
        simp only [h3, takeD_zero, takeD_cons, List.getD_cons_zero, List.getD_cons_succ, D.int_i, ↓reduceIte, beq_t]
        rw [hv]
      · rw [if_pos h2] at hv
        simp only [h3, takeD_zero, takeD_cons, List.cons_append, List.nil_append, List.getD_cons_zero, List.getD_cons_succ, D.int_i]
        rw [if_neg (by decide)]
        refine ⟨fun _ => p1 _, ?_⟩
        rcases errLp_two (cluE g.N g.C) (.i 0) g.C.length with ⟨h4, h5⟩ | ⟨h4, _, h5⟩
        · rw [if_neg h4] at hv
          simp only [h5, takeD_zero, takeD_cons, List.cons_append, List.nil_append, List.getD_cons_zero, List.getD_cons_succ, D.int_i]
          rw [if_pos (by rfl), hv]
        · rw [if_pos h4] at hv
          simp only [h5, takeD_zero, takeD_cons, List.cons_append, List.nil_append, List.getD_cons_zero, List.getD_cons_succ, D.int_i]
          rw [if_neg (by decide)]
          refine ⟨fun _ => p2 _, ?_⟩
          rcases errLp_two (fun j => edgeE g.N (el g.E j)) (.i 0) g.E.length with ⟨h6, h7⟩ | ⟨h6, _, h7⟩
          · simp only [h7, takeD_zero, takeD_cons, List.getD_cons_zero, List.getD_cons_succ, D.int_i]
            rw [if_pos (by rfl), hv]
          · simp only [h7, takeD_zero, takeD_cons, List.getD_cons_zero, List.getD_cons_succ, D.int_i]
            rw [if_neg (by decide), ← hv, h6]
theorem m42 : Meets Try.prog 42 S42 (R 42) (F 42) := by
  refine meets_of_vt (pre := R) (Φ := F) mixed (sgAt_all (P := Try.prog) (pre := R) (Φ := F) (l := sg42) (fcm ⟨m68, fcm ⟨m69, fcm ⟨m70, fcm ⟨m71, (fun _ h => nomatch h)⟩⟩⟩⟩)) Try.func42 b42 n42 (loops_n 3 k42 fun k hk => match k, hk with | 0, _ => loop_this lf42_0 loopM42_0 | 1, _ => loop_this lf42_1 loopM42_1 | 2, _ => loop_this lf42_2 loopM42_2) e42 fun ds hf hq => ?_
  obtain ⟨g, ds', rfl, h5, hnm, ⟨hmN, _⟩, ⟨hmE, _⟩, ⟨hmC, _⟩⟩ := fitsG hf.flat
  have e0 := fits0 h5
  subst e0
  have hF : F 42 [.s g.nm, .b g.dr, .l g.N, .l g.E, .l g.C] = [.i (validE g)] := rfl
  rw [hF]
  generalize hv : validE g = res
  unfold validE at hv
  by_cases h0 : 64 < (g.N.length : Int) ∨ 256 < (g.E.length : Int) ∨ 16 < (g.C.length : Int)
  · rw [if_pos h0] at hv
    have hc : ((decide (64 < (g.N.length : Int)) || decide (256 < (g.E.length : Int))) || decide (16 < (g.C.length : Int))) = true := by
      simp only [Bool.or_eq_true, decide_eq_true_eq]
      omega
    simp only [vt42, VT.ok, Nd.holds, X.outs, X.ds, X.d, Op1.ev, Op2.ev, List.cons_append, List.nil_append, List.getD_cons_zero, List.getD_cons_succ, D.int_i, D.bool_b, D.lst_l, ite_b, ite_or, if_true, takeD1_0, hc]
    rw [hv]
  · rw [if_neg h0] at hv
    have p0 : prW0 [.i 0, .i 0, .s g.nm, .b g.dr, .l g.N, .l g.E, .l g.C] := ⟨_, g, 0, rfl, by omega, hmN⟩
    have p1 : ∀ v, prW1 [v, .i 0, .s g.nm, .b g.dr, .l g.N, .l g.E, .l g.C] := fun v => ⟨_, g, 0, rfl, by omega, by omega, fun k hk => by omega⟩
    have p2 : ∀ v, prW2 [v, .i 0, .s g.nm, .b g.dr, .l g.N, .l g.E, .l g.C] := fun v => ⟨_, g, 0, rfl, by omega, hmE⟩
    simp (disch := omega) only [vt42, VT.ok, Nd.holds, X.outs, X.ds, X.d, Op1.ev, Op2.ev, takeD_zero, takeD_cons, List.cons_append, List.nil_append, List.getD_cons_zero, List.getD_cons_succ, D.int_i, D.bool_b, D.lst_l, D.str_s, Bool.false_eq_true, implies_true, true_and, F68, R68, F14200, R14200, F14201, R14201, F14202, R14202, ↓reduceIte, dlt_f, nameD, cS, lpW0, lpW1, lpW2, Int.toNat_zero]
    cases h1 : isName g.nm
    · rw [h1] at hv
      simp only [Bool.not_false, if_true]
      rw [← hv]; rfl
    · rw [h1] at hv
      simp only [if_true, Bool.not_true, Bool.false_eq_true, if_false] at hv ⊢
      refine ⟨fun _ => p0, ?_⟩
      rcases errLp_two (nodeE g.N g.C) (.i 0) g.N.length with ⟨h2, h3⟩ | ⟨h2, _, h3⟩
      · rw [if_neg h2] at hv
        simp only [h3, takeD_zero, takeD_cons, List.getD_cons_zero, List.getD_cons_succ, D.int_i, ↓reduceIte, beq_t]
        rw [hv]
      · rw [if_pos h2] at hv
        simp only [h3, takeD_zero, takeD_cons, List.cons_append, List.nil_append, List.getD_cons_zero, List.getD_cons_succ, D.int_i]
        rw [if_neg (by decide)]
        refine ⟨fun _ => p1 _, ?_⟩
        rcases errLp_two (cluE g.N g.C) (.i 0) g.C.length with ⟨h4, h5⟩ | ⟨h4, _, h5⟩
        · rw [if_neg h4] at hv
          simp only [h5, takeD_zero, takeD_cons, List.cons_append, List.nil_append, List.getD_cons_zero, List.getD_cons_succ, D.int_i]
          rw [if_pos (by rfl), hv]
        · rw [if_pos h4] at hv
          simp only [h5, takeD_zero, takeD_cons, List.cons_append, List.nil_append, List.getD_cons_zero, List.getD_cons_succ, D.int_i]
          rw [if_neg (by decide)]
          refine ⟨fun _ => p2 _, ?_⟩
          rcases errLp_two (fun j => edgeE g.N (el g.E j)) (.i 0) g.E.length with ⟨h6, h7⟩ | ⟨h6, _, h7⟩
          · simp only [h7, takeD_zero, takeD_cons, List.getD_cons_zero, List.getD_cons_succ, D.int_i]
            rw [if_pos (by rfl), hv]
          · simp only [h7, takeD_zero, takeD_cons, List.getD_cons_zero, List.getD_cons_succ, D.int_i]
            rw [if_neg (by decide), ← hv, h6]
end Go.Proofs.Ytindllmeeckfcaa.rv
