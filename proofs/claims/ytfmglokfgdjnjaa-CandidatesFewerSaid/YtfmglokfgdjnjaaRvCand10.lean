/-
  Candidates: the laws without the reference: boxes keep their distance.
-/
import Derived.Test.YtfmglokfgdjnjaaRvCand9
namespace Go.Proofs.Ytfmglokfgdjnjaa.rv
open Go.RV

theorem mem_putf {q p : Bx} (h : q ∈ putf p) : vq q = true ∧ q = p := by
  unfold putf at h
  split at h
  · rename_i hv
    simp only [List.mem_singleton] at h
    subst h
    exact ⟨hv, rfl⟩
  · cases h
theorem mem_coll {α : Type} {f : Nat → List α} {n i : Nat} {a : α} (h : a ∈ collN f n i) : ∃ j, i ≤ j ∧ j < n ∧ a ∈ f j := by
  obtain ⟨j, hj, hja⟩ := List.mem_flatMap.1 h
  obtain ⟨k, hk, rfl⟩ := List.getElem_of_mem hj
  simp only [List.length_drop, List.length_range] at hk
  simp only [List.getElem_drop, List.getElem_range] at hja
  exact ⟨i + k, by omega, by omega, hja⟩
theorem mem_around {b q : Bx} {w h g : Int} (hq : q ∈ around b w h g) : vq b = true ∧ sz3 w h g = true ∧ vq q = true ∧ ∃ k : Nat, k < 8 ∧ q = place b w h g k := by
  unfold around at hq
  split at hq
  · rename_i hc
    rw [Bool.and_eq_true] at hc
    obtain ⟨k, _, hk, hm⟩ := mem_coll hq
    obtain ⟨h1, h2⟩ := mem_putf hm
    exact ⟨hc.1, hc.2, h1, k, hk, h2⟩
  · cases hq
theorem place_size (b : Bx) (w h g k : Int) : (place b w h g k).2.2.1 - (place b w h g k).1 = w ∧ (place b w h g k).2.2.2 - (place b w h g k).2.1 = h := by
  simp only [place]; omega
theorem place_apart {b : Bx} {w h g k : Int} (hk : 0 ≤ k ∧ k ≤ 7) : g ≤ (place b w h g k).1 - b.2.2.1 ∨ g ≤ b.1 - (place b w h g k).2.2.1 ∨ g ≤ (place b w h g k).2.1 - b.2.2.2 ∨ g ≤ b.2.1 - (place b w h g k).2.2.2 := by
  have hc : k = 0 ∨ k = 1 ∨ k = 2 ∨ k = 3 ∨ k = 4 ∨ k = 5 ∨ k = 6 ∨ k = 7 := by omega
  rcases hc with rfl | rfl | rfl | rfl | rfl | rfl | rfl | rfl <;> simp [place] <;> omega

theorem loopM6_0 : LoopMeets Try.prog F (R L6_0.key) L6_0 lb6_0 := by
  refine loop_meets (pre := R) mixed (sgAt_all (P := Try.prog) (pre := R) (Φ := F) (l := sg6) (List.forall_mem_cons.2 ⟨Meets.at (pre := R) (Φ := F) m10, List.forall_mem_cons.2 ⟨Meets.at (pre := R) (Φ := F) m18, List.forall_mem_cons.2 ⟨Meets.at (pre := R) (Φ := F) m12, (fun _ h => nomatch h)⟩⟩⟩)) (loops_n 0 lk6_0 fun k hk => by omega) L6_0 (fun ρ => (((ρ.getD 1 default).lst.length : Int) - (ρ.getD 2 default).int).toNat) le6_0 fun ρ _ hp => ?_
  obtain ⟨v, b, w, h, g, k, rfl, hk⟩ : pr6 ρ := hp
  have h8 := around_len b w h g
  by_cases hlt : k < (around b w h g).length
  · obtain ⟨hv, hs, hq, j, hj, he⟩ := mem_around (getD_mem q0 hlt)
    have s := place_size b w h g j
    have a := place_apart (b := b) (w := w) (h := h) (g := g) (k := (j : Int)) (by omega)
    rw [← he] at s a
    have hN : RoundOk F (R L6_0.key) (fun ρ => (((ρ.getD 1 default).lst.length : Int) - (ρ.getD 2 default).int).toNat) L6_0 [v, .l ((around b w h g).map encQ), .i (k : Int), .i b.1, .i b.2.1, .i b.2.2.1, .i b.2.2.2, .i w, .i h, .i g] [.i (-1), v, .i ((k + 1 : Nat) : Int)] := by
      refine round_next ⟨⟨v, b, w, h, g, k + 1, rfl, by omega⟩, ?_, rfl⟩
      show ((((around b w h g).map encQ).length : Int) - ((k + 1 : Nat) : Int)).toNat < ((((around b w h g).map encQ).length : Int) - (k : Int)).toNat
      rw [List.length_map]; omega
    have hqi := vq_iff.1 hq
    have hbi := vq_iff.1 hv
    have hsi := sz3_iff.1 hs
    have e2 : bv ((around b w h g).getD k q0).1 ((around b w h g).getD k q0).2.1 ((around b w h g).getD k q0).2.2.1 ((around b w h g).getD k q0).2.2.2 = true := hq
    have ha : (((decide (g ≤ ((around b w h g).getD k q0).1 - b.2.2.1) || decide (g ≤ b.1 - ((around b w h g).getD k q0).2.2.1)) || decide (g ≤ ((around b w h g).getD k q0).2.1 - b.2.2.2)) || decide (g ≤ b.2.1 - ((around b w h g).getD k q0).2.2.2)) = true := by
      simp only [Bool.or_eq_true, decide_eq_true_eq]; omega
    simp (disch := omega) only [rt6_0, VT.ok, Nd.holds, X.outs, X.ds, X.d, Op1.ev, Op2.ev, takeD_zero, takeD_cons, List.cons_append, List.nil_append, List.getD_cons_zero, List.getD_cons_succ, D.int_i, D.bool_b, D.lst_l, ite_b, ite_or, Int.toNat_natCast, List.length_map, Bool.false_eq_true, implies_true, true_and, F18, R18, ↓reduceIte, dle_t, dlt_t, beq_t, w64', rowQ, encQ, fn18_eq, e2, Bool.not_true, ha]
    exact hN
  · have hj : k = (around b w h g).length := by omega
    subst hj
    simp (disch := omega) only [rt6_0, VT.ok, X.ds, X.d, Op1.ev, Op2.ev, List.getD_cons_zero, List.getD_cons_succ, D.int_i, D.bool_b, D.lst_l, List.length_map, Bool.false_eq_true, ↓reduceIte, dlt_f]
    refine round_exit (by omega) ?_
    show lp6 [v, .l ((around b w h g).map encQ), .i ((around b w h g).length : Int), .i b.1, .i b.2.1, .i b.2.2.1, .i b.2.2.2, .i w, .i h, .i g] = _
    simp only [lp6, List.length_map]
theorem law6 : Meets Try.prog 6 S6 (fun _ => True) (fun _ => [.b true]) := by
  refine meets_of_vt (pre := R) (Φ := F) mixed (sgAt_all (P := Try.prog) (pre := R) (Φ := F) (l := sg6) (List.forall_mem_cons.2 ⟨Meets.at (pre := R) (Φ := F) m10, List.forall_mem_cons.2 ⟨Meets.at (pre := R) (Φ := F) m18, List.forall_mem_cons.2 ⟨Meets.at (pre := R) (Φ := F) m12, (fun _ h => nomatch h)⟩⟩⟩)) Try.func6 b6 n6 (loops_n 1 k6 fun k hk => match k, hk with | 0, _ => loop_this lf6_0 loopM6_0) e6 fun ds hf _ => ?_
  obtain ⟨x0, x1, x2, x3, x4, x5, x6, rfl, f0, f1, f2, f3, f4, f5, f6⟩ : ∃ x0 x1 x2 x3 x4 x5 x6, ds = [x0, x1, x2, x3, x4, x5, x6] ∧ Wf (.int .i64) x0 ∧ Wf (.int .i64) x1 ∧ Wf (.int .i64) x2 ∧ Wf (.int .i64) x3 ∧ Wf (.int .i64) x4 ∧ Wf (.int .i64) x5 ∧ Wf (.int .i64) x6 := by
    have := hf.flat
    match ds, this with
    | [x0, x1, x2, x3, x4, x5, x6], ⟨a0, a1, a2, a3, a4, a5, a6, _⟩ => exact ⟨_, _, _, _, _, _, _, rfl, a0, a1, a2, a3, a4, a5, a6⟩
  obtain ⟨a, rfl, _⟩ := wf_i64 f0
  obtain ⟨b, rfl, _⟩ := wf_i64 f1
  obtain ⟨c, rfl, _⟩ := wf_i64 f2
  obtain ⟨d, rfl, _⟩ := wf_i64 f3
  obtain ⟨w, rfl, _⟩ := wf_i64 f4
  obtain ⟨h, rfl, _⟩ := wf_i64 f5
  obtain ⟨g, rfl, _⟩ := wf_i64 f6
  have hp : aroundPre [.i a, .i b, .i c, .i d, .i w, .i h, .i g] := ⟨(a, b, c, d), w, h, g, rfl⟩
  have hl := around_len (a, b, c, d) w h g
  have hpre : pr6 [.b false, .l ((around (a, b, c, d) w h g).map encQ), .i 0, .i a, .i b, .i c, .i d, .i w, .i h, .i g] := ⟨_, (a, b, c, d), w, h, g, 0, rfl, by omega⟩
  by_cases h0 : 0 < (around (a, b, c, d) w h g).length
  · obtain ⟨hv, hs, _⟩ := mem_around (getD_mem q0 h0)
    have hsi := sz3_iff.1 hs
    have hv' : bv a b c d = true := hv
    simp (disch := omega) only [vt6, VT.ok, Nd.holds, X.outs, X.ds, X.d, Op1.ev, Op2.ev, takeD_zero, takeD_cons, List.cons_append, List.nil_append, List.getD_cons_zero, List.getD_cons_succ, D.int_i, D.bool_b, D.lst_l, ite_b, ite_and, List.length_map, Bool.false_eq_true, implies_true, true_and, ↓reduceIte, dlt_t, dlt_f, F12, R12, F10, R10, F18, R18, F10600, R10600, aroundD, one, fn18_eq, hv', Bool.not_true]
    refine ⟨fun _ => hp, fun _ => hpre, ?_⟩
    simp (disch := omega) only [lp6, takeD_zero, takeD_cons, List.cons_append, List.nil_append, List.getD_cons_zero, List.getD_cons_succ, D.int_i, List.length_map, Bool.false_eq_true, ↓reduceIte, beq_f]
  · simp (disch := omega) only [vt6, VT.ok, Nd.holds, X.outs, X.ds, X.d, Op1.ev, Op2.ev, takeD_zero, takeD_cons, List.cons_append, List.nil_append, List.getD_cons_zero, List.getD_cons_succ, D.int_i, D.bool_b, D.lst_l, ite_b, ite_and, List.length_map, Bool.false_eq_true, implies_true, true_and, ↓reduceIte, dlt_f, F12, R12, F10, R10, F18, R18, F10600, R10600, aroundD, one, fn18_eq, Bool.and_false]
    refine ⟨fun _ => hp, fun _ => hpre, ?_⟩
    simp (disch := omega) only [lp6, takeD_zero, takeD_cons, List.cons_append, List.nil_append, List.getD_cons_zero, List.getD_cons_succ, D.int_i, List.length_map, Bool.false_eq_true, ↓reduceIte, beq_f]

/-! ### beside a path -/
theorem mem_along {l : List Pt} {q : Bx} {w h g : Int} (hq : q ∈ along l w h g) : path l = true ∧ sz3 w h g = true ∧ vq q = true ∧ ∃ i, 1 ≤ i ∧ i < l.length ∧ (q = place (segN l i) w h g (first (segN l i)) ∨ q = place (segN l i) w h g (first (segN l i) + 4)) := by
  unfold along at hq
  split at hq
  · rename_i hc
    rw [Bool.and_eq_true] at hc
    obtain ⟨i, h1, h2, hm⟩ := mem_coll hq
    rcases List.mem_append.1 hm with hm | hm
    · obtain ⟨h3, h4⟩ := mem_putf hm
      exact ⟨hc.1, hc.2, h3, i, h1, h2, .inl h4⟩
    · obtain ⟨h3, h4⟩ := mem_putf hm
      exact ⟨hc.1, hc.2, h3, i, h1, h2, .inr h4⟩
  · cases hq
theorem along_size {l : List Pt} {q : Bx} {w h g : Int} (hq : q ∈ along l w h g) : q.2.2.1 - q.1 = w ∧ q.2.2.2 - q.2.1 = h := by
  obtain ⟨_, _, _, i, _, _, he | he⟩ := mem_along hq <;> rw [he] <;> exact place_size _ _ _ _ _
theorem along_near {l : List Pt} {q : Bx} {w h g : Int} (hq : q ∈ along l w h g) : ∃ i, 1 ≤ i ∧ i < l.length ∧ nearAt l q g i = true := by
  obtain ⟨_, _, _, i, h1, h2, he⟩ := mem_along hq
  refine ⟨i, h1, h2, ?_⟩
  simp only [nearAt, Bool.or_eq_true, beq_iff_eq]
  have hf : first (segN l i) = 0 ∨ first (segN l i) = 2 := by unfold first; split <;> simp
  rcases he with he | he <;> rcases hf with hf | hf <;> rw [hf] at he <;> subst he <;> simp [place] <;> omega
theorem fold_or {p : Nat → Bool} : ∀ (m n i : Nat) (f : Bool), m = n - i → i ≤ n → foldN (fun k f => f || p k) n i f = (f || ((List.range n).drop i).any p)
  | 0, n, i, f, hm, hi => by
    have : i = n := by omega
    subst this
    have e : (List.range i).drop i = [] := List.drop_of_length_le (by simp)
    rw [fold_end, e]; simp
  | m + 1, n, i, f, hm, hi => by
    rw [fold_next (by omega), fold_or m n (i + 1) _ (by omega) (by omega), range_drop (by omega : i < n), List.any_cons]
    cases f <;> cases p i <;> simp
theorem near_true {l : List Pt} {q : Bx} {w h g : Int} (hq : q ∈ along l w h g) : nearN l q g 1 false = true := by
  obtain ⟨i, h1, h2, h3⟩ := along_near hq
  rw [nearN, fold_or _ l.length 1 false rfl (by omega), Bool.false_or, List.any_eq_true]
  refine ⟨i, ?_, h3⟩
  rw [List.mem_iff_getElem]
  exact ⟨i - 1, by simp; omega, by simp; omega⟩

theorem loopM7_1 : LoopMeets Try.prog F (R L7_1.key) L7_1 lb7_1 := by
  refine loop_meets (pre := R) mixed (sgAt_all (P := Try.prog) (pre := R) (Φ := F) (l := sg7) (List.forall_mem_cons.2 ⟨Meets.at (pre := R) (Φ := F) m19, List.forall_mem_cons.2 ⟨Meets.at (pre := R) (Φ := F) m12, List.forall_mem_cons.2 ⟨Meets.at (pre := R) (Φ := F) m13, List.forall_mem_cons.2 ⟨Meets.at (pre := R) (Φ := F) m20, (fun _ h => nomatch h)⟩⟩⟩⟩)) (loops_n 0 lk7_1 fun k hk => by omega) L7_1 (fun ρ => (((ρ.getD 0 default).lst.length : Int) - (ρ.getD 4 default).int).toNat) le7_1 fun ρ _ hp => ?_
  obtain ⟨l, w, h, g, i, k, f, rfl, hq, hs, hi, hk⟩ : pr7i ρ := hp
  have h5 := (path_iff.1 hq).1
  have hal := along_len l w h g
  by_cases hlt : k < l.length
  · have hsub : ((l.map encP).take (k + 1)).drop (k - 1) = [l.getD (k - 1) p0, l.getD k p0].map encP := by
      rw [← List.map_take, ← List.map_drop, two (by omega) hlt]
    have hpp : pathPre [.l ([l.getD (k - 1) p0, l.getD k p0].map encP)] := ⟨_, rfl, by show 2 ≤ maxLen; rw [maxLen_val]; omega⟩
    have hbd : bndD [.l ([l.getD (k - 1) p0, l.getD k p0].map encP)] = encQ (segN l k) := by
      show encQ (bnd (([l.getD (k - 1) p0, l.getD k p0].map encP).map decP)) = _
      rw [map_decP, bnd_two hq (by omega) hlt]
    have hv := vq_iff.1 (seg_ok hq (by omega : 0 < k) hlt)
    have hw := vq_iff.1 (mem_along (getD_mem q0 hi)).2.2.1
    simp (disch := omega) only [rt7_1, VT.ok, Nd.holds, X.outs, X.ds, X.d, Op1.ev, Op2.ev, takeD_zero, takeD_cons, List.cons_append, List.nil_append, List.getD_cons_zero, List.getD_cons_succ, D.int_i, D.bool_b, D.lst_l, ite_b, ite_or, Int.toNat_natCast, List.length_map, implies_true, true_and, F20, R20, ↓reduceIte, dle_t, dlt_t, w64', pred_nat, suc_nat, hsub, hbd, encQ, rowQ]
    refine ⟨fun _ => hpp, ?_⟩
    have e : ((((f || ((along l w h g).getD i q0).1 - (segN l k).2.2.1 == g) || (segN l k).1 - ((along l w h g).getD i q0).2.2.1 == g) || ((along l w h g).getD i q0).2.1 - (segN l k).2.2.2 == g) || (segN l k).2.1 - ((along l w h g).getD i q0).2.2.2 == g) = (f || nearAt l ((along l w h g).getD i q0) g k) := by
      simp only [nearAt, Bool.or_assoc]
    rw [e]
    refine round_next ⟨⟨l, w, h, g, i, k + 1, _, rfl, hq, hs, hi, by omega⟩, ?_, ?_⟩
    · show (((l.map encP).length : Int) - ((k + 1 : Nat) : Int)).toNat < (((l.map encP).length : Int) - (k : Int)).toNat
      rw [List.length_map]; omega
    · show lp7i [.l (l.map encP), .l ((along l w h g).map encQ), .i (i : Int), .b (f || nearAt l ((along l w h g).getD i q0) g k), .i ((k + 1 : Nat) : Int), .i w, .i h, .i g] = lp7i [.l (l.map encP), .l ((along l w h g).map encQ), .i (i : Int), .b f, .i (k : Int), .i w, .i h, .i g]
      simp only [lp7i, map_decQ, map_decP, Int.toNat_natCast, nearN]
      rw [fold_next (i := k) hlt]
  · have hj : k = l.length := by omega
    subst hj
    simp (disch := omega) only [rt7_1, VT.ok, X.ds, X.d, Op1.ev, Op2.ev, List.getD_cons_zero, List.getD_cons_succ, D.int_i, D.bool_b, D.lst_l, List.length_map, Bool.false_eq_true, ↓reduceIte, dlt_f]
    refine round_exit (by omega) ?_
    show lp7i [.l (l.map encP), .l ((along l w h g).map encQ), .i (i : Int), .b f, .i (l.length : Int), .i w, .i h, .i g] = _
    simp only [lp7i, map_decQ, map_decP, List.length_map, Int.toNat_natCast, nearN, fold_end]
theorem loopM7_0 : LoopMeets Try.prog F (R L7_0.key) L7_0 lb7_0 := by
  refine loop_meets (pre := R) mixed (sgAt_all (P := Try.prog) (pre := R) (Φ := F) (l := sg7) (List.forall_mem_cons.2 ⟨Meets.at (pre := R) (Φ := F) m19, List.forall_mem_cons.2 ⟨Meets.at (pre := R) (Φ := F) m12, List.forall_mem_cons.2 ⟨Meets.at (pre := R) (Φ := F) m13, List.forall_mem_cons.2 ⟨Meets.at (pre := R) (Φ := F) m20, (fun _ h => nomatch h)⟩⟩⟩⟩)) (loops_n 1 lk7_0 fun k hk => match k, hk with | 0, _ => by rw [li7_0_0]; exact loop_this lf7_1 loopM7_1) L7_0 (fun ρ => (((ρ.getD 2 default).lst.length : Int) - (ρ.getD 3 default).int).toNat) le7_0 fun ρ _ hp => ?_
  obtain ⟨l, v, w, h, g, i, rfl, hi⟩ : pr7 ρ := hp
  have hal := along_len l w h g
  by_cases hlt : i < (along l w h g).length
  · have hm := getD_mem q0 hlt
    obtain ⟨hq, hs, hv, j, j1, j2, _⟩ := mem_along hm
    have h5 := (path_iff.1 hq).1
    have hw := vq_iff.1 hv
    obtain ⟨s1, s2⟩ := along_size hm
    have hpre : pr7i [.l (l.map encP), .l ((along l w h g).map encQ), .i (i : Int), .b false, .i 1, .i w, .i h, .i g] := ⟨l, w, h, g, i, 1, false, rfl, hq, hs, hlt, by omega⟩
    have e : lp7i [.l (l.map encP), .l ((along l w h g).map encQ), .i (i : Int), .b false, .i 1, .i w, .i h, .i g] = [.i 0, .b true, .i (l.length : Int)] := by
      simp only [lp7i, map_decQ, map_decP, List.length_map, Int.toNat_natCast]
      rw [show Int.toNat 1 = 1 from rfl, near_true hm]
    simp (disch := omega) only [rt7_0, VT.ok, Nd.holds, X.outs, X.ds, X.d, Op1.ev, Op2.ev, takeD_zero, takeD_cons, List.cons_append, List.nil_append, List.getD_cons_zero, List.getD_cons_succ, D.int_i, D.bool_b, D.lst_l, Int.toNat_natCast, List.length_map, Bool.false_eq_true, implies_true, true_and, F10700, R10700, ↓reduceIte, dle_t, dlt_t, beq_t, w64', e, rowQ, encQ, Bool.not_true]
    refine ⟨fun _ => hpre, ?_⟩
    refine round_next ⟨⟨l, v, w, h, g, i + 1, rfl, by omega⟩, ?_, rfl⟩
    show ((((along l w h g).map encQ).length : Int) - ((i + 1 : Nat) : Int)).toNat < ((((along l w h g).map encQ).length : Int) - (i : Int)).toNat
    rw [List.length_map]; omega
  · have hj : i = (along l w h g).length := by omega
    subst hj
    simp (disch := omega) only [rt7_0, VT.ok, X.ds, X.d, Op1.ev, Op2.ev, List.getD_cons_zero, List.getD_cons_succ, D.int_i, D.bool_b, D.lst_l, List.length_map, Bool.false_eq_true, ↓reduceIte, dlt_f]
    refine round_exit (by omega) ?_
    show lp7 [.l (l.map encP), v, .l ((along l w h g).map encQ), .i ((along l w h g).length : Int), .i w, .i h, .i g] = _
    simp only [lp7, List.length_map]
theorem law7 : Meets Try.prog 7 S7 (fun _ => True) (fun _ => [.b true]) := by
  refine meets_of_vt (pre := R) (Φ := F) mixed (sgAt_all (P := Try.prog) (pre := R) (Φ := F) (l := sg7) (List.forall_mem_cons.2 ⟨Meets.at (pre := R) (Φ := F) m19, List.forall_mem_cons.2 ⟨Meets.at (pre := R) (Φ := F) m12, List.forall_mem_cons.2 ⟨Meets.at (pre := R) (Φ := F) m13, List.forall_mem_cons.2 ⟨Meets.at (pre := R) (Φ := F) m20, (fun _ h => nomatch h)⟩⟩⟩⟩)) Try.func7 b7 n7 (loops_n 2 k7 fun k hk => match k, hk with | 0, _ => loop_this lf7_0 loopM7_0 | 1, _ => loop_this lf7_1 loopM7_1) e7 fun ds hf _ => ?_
  obtain ⟨x0, x4, x5, x6, rfl, f0, f4, f5, f6⟩ : ∃ x0 x4 x5 x6, ds = [x0, x4, x5, x6] ∧ Wf (.sl 45 ctsP) x0 ∧ Wf (.int .i64) x4 ∧ Wf (.int .i64) x5 ∧ Wf (.int .i64) x6 := by
    have := hf.flat
    match ds, this with
    | [x0, x4, x5, x6], ⟨a0, a4, a5, a6, _⟩ => exact ⟨_, _, _, _, rfl, a0, a4, a5, a6⟩
  obtain ⟨l, rfl, hm, _⟩ := slP f0
  obtain ⟨w, rfl, _⟩ := wf_i64 f4
  obtain ⟨h, rfl, _⟩ := wf_i64 f5
  obtain ⟨g, rfl, _⟩ := wf_i64 f6
  have hp : alongPre [.l (l.map encP), .i w, .i h, .i g] := ⟨l, w, h, g, rfl, hm⟩
  have hpp : pathPre [.l (l.map encP)] := ⟨l, rfl, hm⟩
  have hal := along_len l w h g
  have hpre : pr7 [.l (l.map encP), .b false, .l ((along l w h g).map encQ), .i 0, .i w, .i h, .i g] := ⟨l, _, w, h, g, 0, rfl, by omega⟩
  by_cases hl : 100 < (l.length : Int)
  · simp (disch := omega) only [vt7, VT.ok, Nd.holds, X.outs, X.ds, X.d, Op1.ev, Op2.ev, takeD_zero, takeD_cons, List.cons_append, List.nil_append, List.getD_cons_zero, List.getD_cons_succ, D.int_i, D.bool_b, D.lst_l, List.length_map, Bool.false_eq_true, implies_true, and_true, F12, R12, F19, R19, ↓reduceIte, dlt_t, one, pathD, Bool.not_true, false_implies]
  · cases hq : path l
    · simp (disch := omega) only [vt7, VT.ok, Nd.holds, X.outs, X.ds, X.d, Op1.ev, Op2.ev, takeD_zero, takeD_cons, List.cons_append, List.nil_append, List.getD_cons_zero, List.getD_cons_succ, D.int_i, D.bool_b, D.lst_l, List.length_map, Bool.false_eq_true, implies_true, and_true, F12, R12, F19, R19, ↓reduceIte, dlt_f, one, pathD, map_decP, hq, Bool.not_false]
      exact fun _ => hpp
    · have h5 := (path_iff.1 hq).1
      simp (disch := omega) only [vt7, VT.ok, Nd.holds, X.outs, X.ds, X.d, Op1.ev, Op2.ev, takeD_zero, takeD_cons, List.cons_append, List.nil_append, List.getD_cons_zero, List.getD_cons_succ, D.int_i, D.bool_b, D.lst_l, List.length_map, Bool.false_eq_true, implies_true, true_and, F12, R12, F13, R13, F19, R19, F10701, R10701, ↓reduceIte, dlt_f, w64', one, pathD, alongD, map_decP, hq, Bool.not_true]
      refine ⟨fun _ => hpp, fun _ => hp, ?_⟩
      have hw : IntKind.i64.wrap (2 * ((l.length : Int) - 1)) = 2 * ((l.length : Int) - 1) := w64 (by omega)
      simp (disch := omega) only [takeD_zero, takeD_cons, List.cons_append, List.nil_append, List.getD_cons_zero, List.getD_cons_succ, D.int_i, List.length_map, Bool.false_eq_true, and_true, ↓reduceIte, beq_f, lp7]
      exact fun _ => hpre
end Go.Proofs.Ytfmglokfgdjnjaa.rv
