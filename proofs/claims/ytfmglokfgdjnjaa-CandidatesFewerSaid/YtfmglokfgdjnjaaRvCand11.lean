/-
  Candidates: the law without the reference: more obstacles, fewer free boxes.
-/
import Derived.Test.YtfmglokfgdjnjaaRvCand10
namespace Go.Proofs.Ytfmglokfgdjnjaa.rv
open Go.RV

theorem find_hit {b : List Int} {x : Int} {k : Nat} (hk : k < b.length) (h : b.getD k 0 = x) : find b x k = k := by
  rw [find, List.drop_eq_getElem_cons hk]
  have : b[k] = x := by simpa [List.getD, hk] using h
  simp [this]
theorem find_next {b : List Int} {x : Int} {k : Nat} (hk : k < b.length) (h : b.getD k 0 ≠ x) : find b x (k + 1) = find b x k := by
  rw [find, find, List.drop_eq_getElem_cons hk]
  have : b[k] ≠ x := by simpa [List.getD, hk] using h
  have e : (!(b[k] == x)) = true := by simp [this]
  rw [List.takeWhile_cons, if_pos e, List.length_cons]
  omega
theorem find_end {b : List Int} {x : Int} {k : Nat} (hk : b.length ≤ k) : find b x k = k := by
  rw [find, List.drop_of_length_le hk]; rfl
theorem find_sub {b xs : List Int} {x : Int} {k : Nat} (h : (x :: xs).Sublist (b.drop k)) : find b x k < b.length ∧ xs.Sublist (b.drop (find b x k)) := by
  by_cases hk : k < b.length
  · by_cases hx : b.getD k 0 = x
    · rw [find_hit hk hx]
      refine ⟨hk, ?_⟩
      exact (List.sublist_cons_self x xs).trans h
    · rw [← find_next hk hx]
      refine find_sub (k := k + 1) ?_
      rw [List.drop_eq_getElem_cons hk] at h
      have hne : b[k] ≠ x := by simpa [List.getD, hk] using hx
      cases h with
      | cons _ h => exact h
      | cons_cons _ h => exact absurd rfl hne
  · rw [List.drop_of_length_le (by omega)] at h
    cases h
termination_by b.length - k

theorem loopM8_1 : LoopMeets Try.prog F (R L8_1.key) L8_1 lb8_1 := by
  refine loop_meets (pre := R) mixed (sgAt_all (P := Try.prog) (pre := R) (Φ := F) (l := sg8) (List.forall_mem_cons.2 ⟨Meets.at (pre := R) (Φ := F) m12, List.forall_mem_cons.2 ⟨Meets.at (pre := R) (Φ := F) m16, List.forall_mem_cons.2 ⟨Meets.at (pre := R) (Φ := F) m18, List.forall_mem_cons.2 ⟨Meets.at (pre := R) (Φ := F) m15, (fun _ h => nomatch h)⟩⟩⟩⟩)) (loops_n 0 lk8_1 fun k hk => by omega) L8_1 (fun ρ => (((ρ.getD 0 default).lst.length : Int) - (ρ.getD 2 default).int).toNat) le8_1 fun ρ _ hp => ?_
  obtain ⟨b, c, k, i, rfl, hk, hi, h1, h2⟩ : pr8i ρ := hp
  have hl : ∀ k : Nat, lp8i [.l (b.map encI), .l (c.map encI), .i (k : Int), .i (i : Int)] = [.i 0, .i (find b (c.getD i 0) k : Int)] := fun k => by
    simp only [lp8i, map_decI, Int.toNat_natCast]
  by_cases hlt : k < b.length
  · by_cases hx : b.getD k 0 = c.getD i 0
    · have e : ((b.getD k 0 == c.getD i 0) : Bool) = true := by rw [hx, beq_self_eq_true]
      simp (disch := omega) only [rt8_1, VT.ok, Nd.holds, X.ds, X.d, Op1.ev, Op2.ev, List.getD_cons_zero, List.getD_cons_succ, D.int_i, D.bool_b, D.lst_l, Int.toNat_natCast, List.length_map, Bool.false_eq_true, implies_true, true_and, ↓reduceIte, dle_t, dlt_t, rowI, encI, e, Bool.not_true]
      refine round_exit (by omega) ?_
      refine (hl k).trans ?_
      rw [find_hit hlt hx]
    · have e : ((b.getD k 0 == c.getD i 0) : Bool) = false := by simpa using hx
      simp (disch := omega) only [rt8_1, VT.ok, Nd.holds, X.ds, X.d, Op1.ev, Op2.ev, List.getD_cons_zero, List.getD_cons_succ, D.int_i, D.bool_b, D.lst_l, Int.toNat_natCast, List.length_map, implies_true, true_and, ↓reduceIte, dle_t, dlt_t, w64', rowI, encI, e, Bool.not_false]
      refine round_next ⟨⟨b, c, k + 1, i, rfl, by omega, hi, h1, h2⟩, ?_, ?_⟩
      · show (((b.map encI).length : Int) - ((k + 1 : Nat) : Int)).toNat < (((b.map encI).length : Int) - (k : Int)).toNat
        rw [List.length_map]; omega
      · refine (hl (k + 1)).trans (Eq.trans ?_ (hl k).symm)
        rw [find_next hlt hx]
  · simp (disch := omega) only [rt8_1, VT.ok, Nd.holds, X.ds, X.d, Op1.ev, Op2.ev, List.getD_cons_zero, List.getD_cons_succ, D.int_i, D.bool_b, D.lst_l, List.length_map, Bool.false_eq_true, implies_true, true_and, ↓reduceIte, dle_t, dlt_t, dlt_f, false_implies]
    refine round_exit (by omega) ?_
    refine (hl k).trans ?_
    rw [find_end (by omega)]
theorem loopM8_0 : LoopMeets Try.prog F (R L8_0.key) L8_0 lb8_0 := by
  refine loop_meets (pre := R) mixed (sgAt_all (P := Try.prog) (pre := R) (Φ := F) (l := sg8) (List.forall_mem_cons.2 ⟨Meets.at (pre := R) (Φ := F) m12, List.forall_mem_cons.2 ⟨Meets.at (pre := R) (Φ := F) m16, List.forall_mem_cons.2 ⟨Meets.at (pre := R) (Φ := F) m18, List.forall_mem_cons.2 ⟨Meets.at (pre := R) (Φ := F) m15, (fun _ h => nomatch h)⟩⟩⟩⟩)) (loops_n 1 lk8_0 fun k hk => match k, hk with | 0, _ => by rw [li8_0_0]; exact loop_this lf8_1 loopM8_1) L8_0 (fun ρ => (((ρ.getD 2 default).lst.length : Int) - (ρ.getD 4 default).int).toNat) le8_0 fun ρ _ hp => ?_
  obtain ⟨v, b, c, k, i, rfl, hk, hi, h1, h2, hs⟩ : pr8 ρ := hp
  have hl : ∀ k i : Nat, lp8 [v, .l (b.map encI), .l (c.map encI), .i (k : Int), .i (i : Int)] = [.i 1, v, .i (ends b (c.drop i) k : Int), .i (c.length : Int)] := fun k i => by
    simp only [lp8, map_decI, List.length_map, Int.toNat_natCast]
  by_cases hlt : i < c.length
  · have hd : c.drop i = c.getD i 0 :: c.drop (i + 1) := by
      rw [List.drop_eq_getElem_cons hlt]; simp [List.getD, hlt]
    rw [hd] at hs
    obtain ⟨hf, hs'⟩ := find_sub hs
    have hpre : pr8i [.l (b.map encI), .l (c.map encI), .i (k : Int), .i (i : Int)] := ⟨b, c, k, i, rfl, hk, hlt, h1, h2⟩
    simp (disch := omega) only [rt8_0, VT.ok, Nd.holds, X.outs, X.ds, X.d, Op1.ev, Op2.ev, takeD_zero, takeD_cons, List.cons_append, List.nil_append, List.getD_cons_zero, List.getD_cons_succ, D.int_i, D.bool_b, D.lst_l, Int.toNat_natCast, List.length_map, Bool.false_eq_true, F10800, R10800, ↓reduceIte, dlt_t, beq_f, w64', lp8i, map_decI]
    refine ⟨fun _ => hpre, ?_⟩
    refine round_next ⟨⟨v, b, c, find b (c.getD i 0) k, i + 1, rfl, by omega, by omega, h1, h2, hs'⟩, ?_, ?_⟩
    · show (((c.map encI).length : Int) - ((i + 1 : Nat) : Int)).toNat < (((c.map encI).length : Int) - (i : Int)).toNat
      rw [List.length_map]; omega
    · refine (hl _ (i + 1)).trans (Eq.trans ?_ (hl k i).symm)
      rw [hd, ends]
  · have hj : i = c.length := by omega
    subst hj
    simp (disch := omega) only [rt8_0, VT.ok, X.ds, X.d, Op1.ev, Op2.ev, List.getD_cons_zero, List.getD_cons_succ, D.int_i, D.bool_b, D.lst_l, List.length_map, Bool.false_eq_true, ↓reduceIte, dlt_f]
    refine round_exit (by omega) ?_
    refine (hl k _).trans ?_
    rw [List.drop_length, ends]
theorem loopM8_2 : LoopMeets Try.prog F (R L8_2.key) L8_2 lb8_2 := by
  refine loop_meets (pre := R) mixed (sgAt_all (P := Try.prog) (pre := R) (Φ := F) (l := sg8) (List.forall_mem_cons.2 ⟨Meets.at (pre := R) (Φ := F) m12, List.forall_mem_cons.2 ⟨Meets.at (pre := R) (Φ := F) m16, List.forall_mem_cons.2 ⟨Meets.at (pre := R) (Φ := F) m18, List.forall_mem_cons.2 ⟨Meets.at (pre := R) (Φ := F) m15, (fun _ h => nomatch h)⟩⟩⟩⟩)) (loops_n 0 lk8_2 fun k hk => by omega) L8_2 (fun ρ => (((ρ.getD 0 default).lst.length : Int) - (ρ.getD 1 default).int).toNat) le8_2 fun ρ _ hp => ?_
  obtain ⟨l, j, acc, rfl, hj, h1, ha⟩ : pr8v ρ := hp
  by_cases hlt : j < l.length
  · have hN : ∀ acc', acc' = acc ++ validF l j → RoundOk F (R L8_2.key) (fun ρ => (((ρ.getD 0 default).lst.length : Int) - (ρ.getD 1 default).int).toNat) L8_2 [.l (l.map encQ), .i (j : Int), .l (acc.map encI)] [.i (-1), .i ((j + 1 : Nat) : Int), .l (acc'.map encI)] := by
      rintro acc' rfl
      have hl : (acc ++ validF l j).length ≤ j + 1 := by
        rw [List.length_append, validF]; split <;> simp <;> omega
      refine round_next ⟨⟨l, j + 1, _, rfl, by omega, h1, hl⟩, ?_, ?_⟩
      · show (((l.map encQ).length : Int) - ((j + 1 : Nat) : Int)).toNat < (((l.map encQ).length : Int) - (j : Int)).toNat
        rw [List.length_map]; omega
      · show lp8v [.l (l.map encQ), .i ((j + 1 : Nat) : Int), .l ((acc ++ validF l j).map encI)] = lp8v [.l (l.map encQ), .i (j : Int), .l (acc.map encI)]
        simp only [lp8v, map_decQ, map_decI, List.length_map, Int.toNat_natCast]
        rw [coll_next (f := validF l) hlt acc]
    have e : bv (l.getD j q0).1 (l.getD j q0).2.1 (l.getD j q0).2.2.1 (l.getD j q0).2.2.2 = vq (l.getD j q0) := rfl
    simp (disch := omega) only [rt8_2, VT.ok, Nd.holds, X.outs, X.ds, X.d, Op1.ev, Op2.ev, takeD_zero, takeD_cons, List.cons_append, List.nil_append, List.getD_cons_zero, List.getD_cons_succ, D.int_i, D.bool_b, D.lst_l, Int.toNat_natCast, List.length_map, implies_true, true_and, F18, R18, ↓reduceIte, dle_t, dlt_t, w64', rowQ, encQ, fn18_eq, e]
    cases hq : vq (l.getD j q0)
    · simp only [Bool.false_eq_true, if_false]
      exact hN acc (by rw [validF, hq]; simp)
    · simp only [if_true, encI_eq, cat_map]
      refine ⟨by simp; omega, hN _ (by rw [validF, hq]; simp)⟩
  · have hj : j = l.length := by omega
    subst hj
    simp (disch := omega) only [rt8_2, VT.ok, X.ds, X.d, Op1.ev, Op2.ev, List.getD_cons_zero, List.getD_cons_succ, D.int_i, D.bool_b, D.lst_l, List.length_map, Bool.false_eq_true, ↓reduceIte, dlt_f]
    refine round_exit (by omega) ?_
    show lp8v [.l (l.map encQ), .i (l.length : Int), .l (acc.map encI)] = _
    simp only [lp8v, map_decQ, map_decI, List.length_map, Int.toNat_natCast, coll_end]

theorem coll_filter {p : Nat → Bool} : ∀ l : List Nat, l.flatMap (fun i => if p i = true then [(i : Int)] else []) = (l.filter p).map (fun (i : Nat) => (i : Int))
  | [] => rfl
  | a :: l => by
    rw [List.flatMap_cons, coll_filter l]
    cases h : p a <;> simp [h]
theorem free_filter (l obs : List Bx) : free l obs = ((List.range l.length).filter (freeAt l obs)).map (fun (i : Nat) => (i : Int)) := coll_filter _
theorem free_sub (l o1 o2 : List Bx) : (free l (o1 ++ o2)).Sublist (free l o1) := by
  rw [free_filter, free_filter]
  refine List.Sublist.map _ (filter_sub _ fun i _ h => ?_)
  simp only [freeAt, Bool.and_eq_true, Bool.not_eq_true', anyN_false] at h ⊢
  refine ⟨h.1, fun j hj => ?_⟩
  have := h.2 j (by simp; omega)
  simpa [hitAt, List.getD, List.getElem?_append_left hj] using this
theorem free_nil (l : List Bx) : free l [] = collN (validF l) l.length 0 := by
  have : ∀ i, freeAt l [] i = vq (l.getD i q0) := fun i => by simp [freeAt, anyN]
  unfold free
  refine coll_congr fun j _ _ => ?_
  rw [this, validF]
theorem law8 : Meets Try.prog 8 S8 (fun _ => True) (fun _ => [.b true]) := by
  refine meets_of_vt (pre := R) (Φ := F) mixed (sgAt_all (P := Try.prog) (pre := R) (Φ := F) (l := sg8) (List.forall_mem_cons.2 ⟨Meets.at (pre := R) (Φ := F) m12, List.forall_mem_cons.2 ⟨Meets.at (pre := R) (Φ := F) m16, List.forall_mem_cons.2 ⟨Meets.at (pre := R) (Φ := F) m18, List.forall_mem_cons.2 ⟨Meets.at (pre := R) (Φ := F) m15, (fun _ h => nomatch h)⟩⟩⟩⟩)) Try.func8 b8 n8 (loops_n 3 k8 fun k hk => match k, hk with | 0, _ => loop_this lf8_0 loopM8_0 | 1, _ => loop_this lf8_1 loopM8_1 | 2, _ => loop_this lf8_2 loopM8_2) e8 fun ds hf _ => ?_
  obtain ⟨x0, x1, x2, rfl, f0, f1, f2⟩ := fits3 hf.flat
  obtain ⟨l, rfl, hm, _⟩ := slQ f0
  obtain ⟨o1, rfl, hm1, _⟩ := slQ f1
  obtain ⟨o2, rfl, hm2, _⟩ := slQ f2
  by_cases hl : 100 < (l.length : Int)
  · simp (disch := omega) only [vt8, VT.ok, Nd.holds, X.outs, X.ds, X.d, Op1.ev, Op2.ev, takeD_zero, takeD_cons, List.cons_append, List.nil_append, List.getD_cons_zero, List.getD_cons_succ, D.int_i, D.bool_b, D.lst_l, List.length_map, implies_true, and_true, F12, R12, ↓reduceIte, dlt_t, one]
  · by_cases h1 : 100 < (o1.length : Int)
    · simp (disch := omega) only [vt8, VT.ok, Nd.holds, X.outs, X.ds, X.d, Op1.ev, Op2.ev, takeD_zero, takeD_cons, List.cons_append, List.nil_append, List.getD_cons_zero, List.getD_cons_succ, D.int_i, D.bool_b, D.lst_l, List.length_map, Bool.false_eq_true, implies_true, and_true, F12, R12, ↓reduceIte, dlt_t, dlt_f, one]
    · by_cases h2 : 100 < (o2.length : Int)
      · simp (disch := omega) only [vt8, VT.ok, Nd.holds, X.outs, X.ds, X.d, Op1.ev, Op2.ev, takeD_zero, takeD_cons, List.cons_append, List.nil_append, List.getD_cons_zero, List.getD_cons_succ, D.int_i, D.bool_b, D.lst_l, List.length_map, Bool.false_eq_true, implies_true, and_true, F12, R12, ↓reduceIte, dlt_t, dlt_f, one]
      · have hc : o1.map encQ ++ o2.map encQ = (o1 ++ o2).map encQ := by rw [List.map_append]
        have pa : freePre [.l (l.map encQ), .l []] := ⟨l, [], rfl, by omega, by simp⟩
        have pb : freePre [.l (l.map encQ), .l (o1.map encQ)] := ⟨l, o1, rfl, by omega, by omega⟩
        have pc : freePre [.l (l.map encQ), .l ((o1 ++ o2).map encQ)] := ⟨l, o1 ++ o2, rfl, by omega, by simp; omega⟩
        have la := free_len l []
        have lb := free_len l o1
        have lc := free_len l (o1 ++ o2)
        have hab : (free l o1).length ≤ (free l []).length := (free_sub l [] o1).length_le
        have p8 : pr8 [.b false, .l ((free l o1).map encI), .l ((free l (o1 ++ o2)).map encI), .i 0, .i 0] := ⟨_, free l o1, free l (o1 ++ o2), 0, 0, rfl, by omega, by omega, by omega, by omega, free_sub l o1 o2⟩
        have pv : pr8v [.l (l.map encQ), .i 0, .l []] := ⟨l, 0, [], rfl, by omega, by omega, by simp⟩
        have ea : freeD [.l (l.map encQ), .l []] = [.l ((free l []).map encI)] := by simp only [freeD, map_decQ, List.map_nil]
        have ev : lp8v [.l (l.map encQ), .i 0, .l []] = [.i 0, .i (l.length : Int), .l ((free l []).map encI)] := by
          simp only [lp8v, map_decQ, List.map_nil, List.nil_append, List.length_map, Int.toNat_zero, free_nil]
        have ps : sameI [.l ((free l []).map encI), .l ((free l []).map encI)] := ⟨_, rfl, by rw [maxLen_val]; omega⟩
        have eb : freeD [.l (l.map encQ), .l (o1.map encQ)] = [.l ((free l o1).map encI)] := by simp only [freeD, map_decQ]
        have ec : freeD [.l (l.map encQ), .l ((o1 ++ o2).map encQ)] = [.l ((free l (o1 ++ o2)).map encI)] := by simp only [freeD, map_decQ]
        simp (disch := omega) only [vt8, VT.ok, Nd.holds, X.outs, X.ds, X.d, Op1.ev, Op2.ev, takeD_zero, takeD_cons, List.cons_append, List.nil_append, List.getD_cons_zero, List.getD_cons_succ, D.int_i, D.bool_b, D.lst_l, List.length_map, Bool.false_eq_true, implies_true, true_and, F15, R15, F12, R12, F16, R16, F10801, R10801, F10802, R10802, ↓reduceIte, dle_t, dlt_f, one, List.length_append, hc, ea, eb, ec]
        refine ⟨fun _ => pa, fun _ => pb, fun _ => pc, fun _ => p8, fun _ => pv, ?_⟩
        simp (disch := omega) only [lp8, takeD_zero, takeD_cons, List.cons_append, List.nil_append, List.getD_cons_zero, List.getD_cons_succ, D.bool_b, List.length_map, and_true, ↓reduceIte, ev]
        exact fun _ => ps
end Go.Proofs.Ytfmglokfgdjnjaa.rv
