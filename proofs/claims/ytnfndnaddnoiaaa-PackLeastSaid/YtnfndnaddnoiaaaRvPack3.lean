/-
  Packing: the check of the reference, shelves, extents.
-/
import Derived.Test.YtnfndnaddnoiaaaRvPack2
namespace Go.Proofs.Ytnfndnaddnoiaaa.rv
open Go.RV

theorem bad_or (p : Pt) : (decide (p.1 < 0) || decide (1048576 < p.1) || decide (p.2 < 0) || decide (1048576 < p.2)) = badP p := by
  rw [Bool.eq_iff_iff]
  simp only [badP, Bool.or_eq_true, decide_eq_true_eq]
  omega

theorem loopM20 : LoopMeets Try.prog F (R L20_0.key) L20_0 lb20_0 := by
  refine loop_meets (pre := R) mixed (hM0 (l := sg20) rfl) (loops_n 0 lk20_0 fun k hk => by omega) L20_0 (fun ρ => (((ρ.getD 0 default).lst.length : Int) - (ρ.getD 2 default).int).toNat) le20_0 fun ρ _ hp => ?_
  obtain ⟨v, l, j, rfl, hj, hm⟩ : pr20 ρ := hp
  rw [maxLen_val] at hm
  have d0 : decide ((0 : Int) ≤ (j : Int)) = true := decide_eq_true (by omega)
  by_cases hlt : j < l.length
  · have d1 : decide ((j : Int) < (l.length : Int)) = true := decide_eq_true (by omega)
    have hg : (l.map encP).getD j [] = encP (l.getD j p0) := row_get p0 hlt
    have hw : IntKind.i64.wrap ((j : Int) + 1) = ((j + 1 : Nat) : Int) := nat_wrap (by omega)
    simp only [rt20_0, VT.ok, Nd.holds, X.ds, X.d, Op1.ev, Op2.ev, List.getD_cons_zero, List.getD_cons_succ, D.int_i, D.bool_b, D.lst_l, ite_b, ite_or, Int.toNat_natCast, List.length_map, if_true, implies_true, true_and, d0, d1, hg, encP, hw, bad_or]
    show if badAt l j = true then _ else _
    split
    · rename_i hb
      refine round_exit (by omega) ?_
      show lp20 [.l (l.map encP), .i v, .i (j : Int)] = [.i 0, .i 1, .i (j : Int)]
      simp only [lp20, map_decP, List.length_map, Int.toNat_natCast]
      exact scan_hit hlt hb
    · rename_i hb
      refine round_next ⟨⟨v, l, j + 1, rfl, by omega, hm⟩, ?_, ?_⟩
      · show (((l.map encP).length : Int) - ((j + 1 : Nat) : Int)).toNat < (((l.map encP).length : Int) - (j : Int)).toNat
        rw [List.length_map]; omega
      · show lp20 [.l (l.map encP), .i v, .i ((j + 1 : Nat) : Int)] = lp20 [.l (l.map encP), .i v, .i (j : Int)]
        simp only [lp20, map_decP, List.length_map, Int.toNat_natCast]
        exact scan_next hlt (by simpa using hb)
  · have hj : j = l.length := by omega
    subst hj
    have d1 : decide ((l.length : Int) < (l.length : Int)) = false := decide_eq_false (by omega)
    simp only [rt20_0, VT.ok, Nd.holds, X.ds, X.d, Op1.ev, Op2.ev, List.getD_cons_zero, List.getD_cons_succ, D.int_i, D.bool_b, D.lst_l, ite_b, ite_or, Int.toNat_natCast, List.length_map, Bool.false_eq_true, if_false, d1]
    refine round_exit (by omega) ?_
    show lp20 [.l (l.map encP), .i v, .i (l.length : Int)] = [.i 1, .i v, .i (l.length : Int)]
    simp only [lp20, map_decP, List.length_map, Int.toNat_natCast]
    exact scan_end

theorem m20 : Meets Try.prog 20 S20 chkPre chkD := by
  refine meets_of_vt (pre := R) (Φ := F) mixed (hM0 (l := sg20) rfl) Try.func20 b20 n20 (loops_n 1 k20 fun k hk => ?_) e20 fun ds _ hp => ?_
  · match k, hk with
    | 0, _ => exact loop_this lf20_0 loopM20
  · obtain ⟨l, w, g, rfl, hm⟩ := hp
    have hpre : pr20 [.l (l.map encP), .i 0, .i 0] := ⟨0, l, 0, rfl, by omega, hm⟩
    have hl : lp20 [.l (l.map encP), .i 0, .i 0] = scanN (badAt l) (fun j => [.i 0, .i 1, .i (j : Int)]) (fun j => [.i 1, .i 0, .i (j : Int)]) l.length 0 := by
      simp only [lp20, map_decP, List.length_map]; rfl
    have hc : chkD [.l (l.map encP), .i w, .i g] = [.i (cerr l w g)] := by simp only [chkD, map_decP]
    simp only [vt20, VT.ok, Nd.holds, X.outs, X.ds, X.d, Op1.ev, Op2.ev, List.cons_append, List.nil_append, List.getD_cons_zero, List.getD_cons_succ, D.int_i, D.bool_b, D.lst_l, ite_b, ite_or, show F 12000 = lp20 from rfl, show R 12000 = pr20 from rfl, hl, hc]
    refine ⟨fun _ => hpre, ?_⟩
    rcases scan_any (p := badAt l) (hit := fun j => [.i 0, .i 1, .i (j : Int)]) (miss := fun j => [.i 1, .i 0, .i (j : Int)]) l.length with ⟨h1, j, _, _, _, h2⟩ | ⟨h1, h2⟩
    · rw [h2]
      simp [cerr, h1]
    · rw [h2]
      simp only [takeD_zero, takeD_cons, List.getD_cons_zero, List.getD_cons_succ, D.int_i, cerr, h1, Bool.false_eq_true, if_false, arg_cond, List.length_map]
      exact cerr_split

/-! ### shelves -/
theorem shInv_at {l : List Pt} {g x y low : Int} {acc : List Bx} {j : Nat} (h : shInv l g x y low acc j) (hlt : j < l.length) : ((0 ≤ (l.getD j p0).1 ∧ (l.getD j p0).1 ≤ 1048576) ∧ 0 ≤ (l.getD j p0).2 ∧ (l.getD j p0).2 ≤ 1048576) ∧ (x ≤ 134217728 ∧ y ≤ 134217728 ∧ low ≤ 134217728) := by
  obtain ⟨h1, h2, h3, h4, h5, h6, h7, h8⟩ := h
  refine ⟨?_, by omega⟩
  have := h1 l[j] (List.getElem_mem hlt)
  simpa [List.getD, hlt] using this
theorem shInv_new {l : List Pt} {g x y low : Int} {acc : List Bx} {j : Nat} (h : shInv l g x y low acc j) (hlt : j < l.length) (b : Bx) : shInv l g ((l.getD j p0).1 + g) (low + g) (max (low + g) (low + g + (l.getD j p0).2)) (acc ++ [b]) (j + 1) := by
  have h0 := shInv_at h hlt
  obtain ⟨h1, h2, h3, h4, h5, h6, h7, h8⟩ := h
  refine ⟨h1, h2, h3, by omega, by omega, by omega, by omega, by simp [h8]⟩
theorem shInv_on {l : List Pt} {g x y low : Int} {acc : List Bx} {j : Nat} (h : shInv l g x y low acc j) (hlt : j < l.length) (b : Bx) : shInv l g (x + (l.getD j p0).1 + g) y (max low (y + (l.getD j p0).2)) (acc ++ [b]) (j + 1) := by
  have h0 := shInv_at h hlt
  obtain ⟨h1, h2, h3, h4, h5, h6, h7, h8⟩ := h
  refine ⟨h1, h2, h3, by omega, by omega, by omega, by omega, by simp [h8]⟩

theorem drop_at (l : List Pt) {j : Nat} (h : j < l.length) : l.drop j = l.getD j p0 :: l.drop (j + 1) := by
  rw [List.drop_eq_getElem_cons h]
  simp [List.getD, h]

theorem loopM19 : LoopMeets Try.prog F (R L19_0.key) L19_0 lb19_0 := by
  refine loop_meets (pre := R) mixed (hM0 (l := sg19) rfl) (loops_n 0 lk19_0 fun k hk => by omega) L19_0 (fun ρ => ((ρ.getD 6 default).int - (ρ.getD 7 default).int).toNat) le19_0 fun ρ _ hp => ?_
  obtain ⟨w, g, x, y, low, l, j, acc, rfl, hI, hwb⟩ : pr19 ρ := hp
  have hI' := hI
  obtain ⟨_, h64, hg0, hj, hx, hy, hlow, hacc⟩ := hI'
  have d0 : decide ((0 : Int) ≤ (j : Int)) = true := decide_eq_true (by omega)
  by_cases hlt : j < l.length
  · have d1 : decide ((j : Int) < (l.length : Int)) = true := decide_eq_true (by omega)
    have hgt : (l.map encP).getD j [] = encP (l.getD j p0) := row_get p0 hlt
    have hw : IntKind.i64.wrap ((j : Int) + 1) = ((j + 1 : Nat) : Int) := nat_wrap (by omega)
    obtain ⟨hp, hb⟩ := shInv_at hI hlt
    have hN := shInv_new hI hlt
    have hO := shInv_on hI hlt
    have hdr := drop_at l hlt
    generalize hpp : l.getD j p0 = p at *
    obtain ⟨a, b⟩ := p
    have w1 : IntKind.i64.wrap (x + a) = x + a := w64 (by omega)
    have w2 : IntKind.i64.wrap (low + g) = low + g := w64 (by omega)
    have w3 : IntKind.i64.wrap (0 + a) = a := by rw [w64 (by omega)]; omega
    have w4 : IntKind.i64.wrap (low + g + b) = low + g + b := w64 (by omega)
    have w5 : IntKind.i64.wrap (a + g) = a + g := w64 (by omega)
    have w6 : IntKind.i64.wrap (0 + (a + g)) = a + g := by rw [w64 (by omega)]; omega
    have w7 : IntKind.i64.wrap (y + b) = y + b := w64 (by omega)
    have w8 : IntKind.i64.wrap (x + (a + g)) = x + a + g := by rw [w64 (by omega)]; omega
    have len : ∀ q : Bx, decide (((acc ++ [q]).length : Int) ≤ 4398046511104) = true := fun q => decide_eq_true (by simp; omega)
    simp only [rt19_0, VT.ok, Nd.holds, X.ds, X.d, Op1.ev, Op2.ev, List.getD_cons_zero, List.getD_cons_succ, D.int_i, D.bool_b, D.lst_l, ite_b, ite_and, imax, Int.toNat_natCast, List.length_map, if_true, implies_true, true_and, d0, d1, hgt, encP, hw, w1, w2, w3, w4, w5, w6, w7, w8, encQ_eq, cat_map, len]
    have hz : (!(((j : Nat) : Int) == 0)) = decide (0 < (j : Int)) := by
      rw [Bool.eq_iff_iff]; simp; omega
    have hz2 : ((((j + 1 : Nat) : Int)) == 0) = false := by
      rw [beq_eq_false_iff_ne]; omega
    split
    · rename_i hc
      refine round_next ⟨⟨w, g, a + g, low + g, max (low + g) (low + g + b), l, j + 1, acc ++ [(0, low + g, a, low + g + b)], rfl, hN _, hwb⟩, ?_, ?_⟩
      · show ((l.length : Int) - ((j + 1 : Nat) : Int)).toNat < ((l.length : Int) - (j : Int)).toNat
        omega
      · show lp19 [.i w, .i g, .i (a + g), .i (low + g), .i (max (low + g) (low + g + b)), .l (l.map encP), .i (l.length : Int), .i ((j + 1 : Nat) : Int), .l ((acc ++ [(0, low + g, a, low + g + b)]).map encQ)] = lp19 [.i w, .i g, .i x, .i y, .i low, .l (l.map encP), .i (l.length : Int), .i (j : Int), .l (acc.map encQ)]
        simp only [lp19, map_decP, map_decQ, List.length_map, Int.toNat_natCast, hdr, shelF, hz, hz2, hc, if_true]
    · rename_i hc
      refine round_next ⟨⟨w, g, x + a + g, y, max low (y + b), l, j + 1, acc ++ [(x, y, x + a, y + b)], rfl, hO _, hwb⟩, ?_, ?_⟩
      · show ((l.length : Int) - ((j + 1 : Nat) : Int)).toNat < ((l.length : Int) - (j : Int)).toNat
        omega
      · show lp19 [.i w, .i g, .i (x + a + g), .i y, .i (max low (y + b)), .l (l.map encP), .i (l.length : Int), .i ((j + 1 : Nat) : Int), .l ((acc ++ [(x, y, x + a, y + b)]).map encQ)] = lp19 [.i w, .i g, .i x, .i y, .i low, .l (l.map encP), .i (l.length : Int), .i (j : Int), .l (acc.map encQ)]
        simp only [lp19, map_decP, map_decQ, List.length_map, Int.toNat_natCast, hdr, shelF, hz, hz2, hc, if_false, Bool.false_eq_true]
  · have hj : j = l.length := by omega
    subst hj
    have d1 : decide ((l.length : Int) < (l.length : Int)) = false := decide_eq_false (by omega)
    simp only [rt19_0, VT.ok, Nd.holds, X.ds, X.d, Op1.ev, Op2.ev, List.getD_cons_zero, List.getD_cons_succ, D.int_i, D.bool_b, D.lst_l, ite_b, ite_and, imax, Int.toNat_natCast, List.length_map, Bool.false_eq_true, if_false, d1]
    refine round_exit (by omega) ?_
    show lp19 [.i w, .i g, .i x, .i y, .i low, .l (l.map encP), .i (l.length : Int), .i (l.length : Int), .l (acc.map encQ)] = _
    simp only [lp19, map_decP, map_decQ, List.length_map, Int.toNat_natCast, List.drop_length, shelF, shOut]

theorem loopM10 (hM : ∀ f S, sgOf sg10 f = some S → Meets Try.prog f S (R f) (F f)) : LoopMeets Try.prog F (R L10_0.key) L10_0 lb10_0 := by
  refine loop_meets (pre := R) mixed hM (loops_n 0 lk10_0 fun k hk => by omega) L10_0 (fun ρ => (((ρ.getD 0 default).lst.length : Int) - (ρ.getD 6 default).int).toNat) le10_0 fun ρ _ hp => ?_
  obtain ⟨w, g, x, y, low, l, j, acc, rfl, hI, hwb⟩ : pr10 ρ := hp
  have hI' := hI
  obtain ⟨_, h64, hg0, hj, hx, hy, hlow, hacc⟩ := hI'
  have d0 : decide ((0 : Int) ≤ (j : Int)) = true := decide_eq_true (by omega)
  by_cases hlt : j < l.length
  · have d1 : decide ((j : Int) < (l.length : Int)) = true := decide_eq_true (by omega)
    have hgt : (l.map encP).getD j [] = encP (l.getD j p0) := row_get p0 hlt
    have hw : IntKind.i64.wrap ((j : Int) + 1) = ((j + 1 : Nat) : Int) := nat_wrap (by omega)
    obtain ⟨hp, hb⟩ := shInv_at hI hlt
    have hN := shInv_new hI hlt
    have hO := shInv_on hI hlt
    have hdr := drop_at l hlt
    generalize hpp : l.getD j p0 = p at *
    obtain ⟨a, b⟩ := p
    have w1 : IntKind.i64.wrap (x + a) = x + a := w64 (by omega)
    have w2 : IntKind.i64.wrap (low + g) = low + g := w64 (by omega)
    have w3 : IntKind.i64.wrap (0 + a) = a := by rw [w64 (by omega)]; omega
    have w4 : IntKind.i64.wrap (low + g + b) = low + g + b := w64 (by omega)
    have w5 : IntKind.i64.wrap (a + g) = a + g := w64 (by omega)
    have w6 : IntKind.i64.wrap (x + a + g) = x + a + g := w64 (by omega)
    have w7 : IntKind.i64.wrap (y + b) = y + b := w64 (by omega)
    have len : ∀ q : Bx, decide (((acc ++ [q]).length : Int) ≤ 4398046511104) = true := fun q => decide_eq_true (by simp; omega)
    simp only [rt10_0, VT.ok, Nd.holds, X.ds, X.d, Op1.ev, Op2.ev, List.getD_cons_zero, List.getD_cons_succ, D.int_i, D.bool_b, D.lst_l, ite_b, ite_and, imax, Int.toNat_natCast, List.length_map, if_true, implies_true, true_and, d0, d1, hgt, encP, hw, w1, w2, w3, w4, w5, w6, w7, encQ_eq, cat_map, len]
    have hz : (!(((j : Nat) : Int) == 0)) = decide (0 < (j : Int)) := by
      rw [Bool.eq_iff_iff]; simp; omega
    have hz2 : ((((j + 1 : Nat) : Int)) == 0) = false := by
      rw [beq_eq_false_iff_ne]; omega
    split
    · rename_i hc
      refine round_next ⟨⟨w, g, a + g, low + g, max (low + g) (low + g + b), l, j + 1, acc ++ [(0, low + g, a, low + g + b)], rfl, hN _, hwb⟩, ?_, ?_⟩
      · show (((l.map encP).length : Int) - ((j + 1 : Nat) : Int)).toNat < (((l.map encP).length : Int) - (j : Int)).toNat
        rw [List.length_map]; omega
      · show lp10 [.l (l.map encP), .i w, .i g, .i (a + g), .i (low + g), .i (max (low + g) (low + g + b)), .i ((j + 1 : Nat) : Int), .l ((acc ++ [(0, low + g, a, low + g + b)]).map encQ)] = lp10 [.l (l.map encP), .i w, .i g, .i x, .i y, .i low, .i (j : Int), .l (acc.map encQ)]
        simp only [lp10, map_decP, map_decQ, List.length_map, Int.toNat_natCast, hdr, shelF, hz, hz2, hc, if_true]
    · rename_i hc
      refine round_next ⟨⟨w, g, x + a + g, y, max low (y + b), l, j + 1, acc ++ [(x, y, x + a, y + b)], rfl, hO _, hwb⟩, ?_, ?_⟩
      · show (((l.map encP).length : Int) - ((j + 1 : Nat) : Int)).toNat < (((l.map encP).length : Int) - (j : Int)).toNat
        rw [List.length_map]; omega
      · show lp10 [.l (l.map encP), .i w, .i g, .i (x + a + g), .i y, .i (max low (y + b)), .i ((j + 1 : Nat) : Int), .l ((acc ++ [(x, y, x + a, y + b)]).map encQ)] = lp10 [.l (l.map encP), .i w, .i g, .i x, .i y, .i low, .i (j : Int), .l (acc.map encQ)]
        simp only [lp10, map_decP, map_decQ, List.length_map, Int.toNat_natCast, hdr, shelF, hz, hz2, hc, if_false, Bool.false_eq_true]
  · have hj : j = l.length := by omega
    subst hj
    have d1 : decide ((l.length : Int) < (l.length : Int)) = false := decide_eq_false (by omega)
    simp only [rt10_0, VT.ok, Nd.holds, X.ds, X.d, Op1.ev, Op2.ev, List.getD_cons_zero, List.getD_cons_succ, D.int_i, D.bool_b, D.lst_l, ite_b, ite_and, imax, Int.toNat_natCast, List.length_map, Bool.false_eq_true, if_false, d1]
    refine round_exit (by omega) ?_
    show lp10 [.l (l.map encP), .i w, .i g, .i x, .i y, .i low, .i (l.length : Int), .l (acc.map encQ)] = _
    simp only [lp10, map_decP, map_decQ, List.length_map, Int.toNat_natCast, List.drop_length, shelF, shOut]

theorem m19 : Meets Try.prog 19 S19 shPre shD := by
  refine meets_of_vt (pre := R) (Φ := F) mixed (hM0 (l := sg19) rfl) Try.func19 b19 n19 (loops_n 1 k19 fun k hk => ?_) e19 fun ds _ hp => ?_
  · match k, hk with
    | 0, _ => exact loop_this lf19_0 loopM19
  · obtain ⟨l, w, g, rfl, h1, h2, h3, h4⟩ := hp
    have hpre : pr19 [.i w, .i g, .i 0, .i 0, .i 0, .l (l.map encP), .i (l.length : Int), .i 0, .l []] := ⟨w, g, 0, 0, 0, l, 0, [], rfl, ⟨h1, h2, h3, by omega, by omega, by omega, by omega, rfl⟩, h4⟩
    have hl : lp19 [.i w, .i g, .i 0, .i 0, .i 0, .l (l.map encP), .i (l.length : Int), .i 0, .l []] = shOut l.length (shelF w g true 0 0 0 [] l) := by
      simp only [lp19, map_decP, List.length_map]; rfl
    simp only [vt19, VT.ok, Nd.holds, X.outs, X.ds, X.d, Op1.ev, takeD_zero, takeD_cons, List.cons_append, List.nil_append, List.getD_cons_zero, List.getD_cons_succ, D.bool_b, D.lst_l, List.length_map, show F 11900 = lp19 from rfl, show R 11900 = pr19 from rfl, hl, shOut, shD, map_decP]
    exact ⟨fun _ => hpre, rfl⟩

theorem hM9 {l : List (FuncId × Sig)} (h : ∀ e ∈ l, e = (18, S18) ∨ e = (19, S19) ∨ e = (20, S20)) : ∀ f S, sgOf l f = some S → Meets Try.prog f S (R f) (F f) := sgOf_all (l := l) (by
  intro e he
  rcases h e he with rfl | rfl | rfl
  · exact m18
  · exact m19
  · exact m20)

theorem m9 : Meets Try.prog 9 S9 chkPre shelvesD := by
  refine meets_of_vt (pre := R) (Φ := F) mixed (hM9 (l := sg9) (by simp [sg9])) Try.func9 b9 n9 (loops_n 0 k9 fun k hk => by omega) e9 fun ds _ hp => ?_
  have hp' := hp
  obtain ⟨l, w, g, rfl, hm⟩ := hp
  have hc : chkD [.l (l.map encP), .i w, .i g] = [.i (cerr l w g)] := by simp only [chkD, map_decP]
  have hs : shD [.l (l.map encP), .i w, .i g] = [.l ((shel w g l).map encQ)] := by simp only [shD, map_decP]
  simp only [vt9, VT.ok, Nd.holds, X.outs, X.ds, X.d, Op1.ev, Op2.ev, takeD_zero, takeD_cons, List.cons_append, List.nil_append, List.getD_cons_zero, List.getD_cons_succ, D.int_i, D.bool_b, show F 18 = chkD from rfl, show F 19 = shD from rfl, show R 18 = chkPre from rfl, show R 19 = shPre from rfl, hc, hs, shelvesD, map_decP]
  refine ⟨fun _ => hp', ?_⟩
  by_cases h0 : cerr l w g = 0
  · have hb : (!(cerr l w g == 0)) = false := by simp [h0]
    obtain ⟨o1, o2, o3, o4⟩ := cerr_ok h0
    simp only [h0, if_true]
    exact ⟨fun _ => ⟨l, w, g, rfl, o1, o4, o3, by omega⟩, trivial⟩
  · have hb : (!(cerr l w g == 0)) = true := by simp [h0]
    simp only [hb, if_true, h0, if_false]
    rfl

theorem m10 : Meets Try.prog 10 S10 chkPre shelvesD := by
  refine meets_of_vt (pre := R) (Φ := F) mixed (hM9 (l := sg10) (by simp [sg10])) Try.func10 b10 n10 (loops_n 1 k10 fun k hk => ?_) e10 fun ds _ hp => ?_
  · match k, hk with
    | 0, _ => exact loop_this lf10_0 (loopM10 (hM9 (l := sg10) (by simp [sg10])))
  have hp' := hp
  obtain ⟨l, w, g, rfl, hm⟩ := hp
  have hc : chkD [.l (l.map encP), .i w, .i g] = [.i (cerr l w g)] := by simp only [chkD, map_decP]
  have hl : lp10 [.l (l.map encP), .i w, .i g, .i 0, .i 0, .i 0, .i 0, .l []] = shOut l.length (shelF w g true 0 0 0 [] l) := by
    simp only [lp10, map_decP, List.length_map]; rfl
  simp only [vt10, VT.ok, Nd.holds, X.outs, X.ds, X.d, Op1.ev, Op2.ev, takeD_zero, takeD_cons, List.cons_append, List.nil_append, List.getD_cons_zero, List.getD_cons_succ, D.int_i, D.bool_b, show F 20 = chkD from rfl, show F 11000 = lp10 from rfl, show R 20 = chkPre from rfl, show R 11000 = pr10 from rfl, hc, hl, shOut, shelvesD, map_decP]
  refine ⟨fun _ => hp', ?_⟩
  by_cases h0 : cerr l w g = 0
  · have hb : (!(cerr l w g == 0)) = false := by simp [h0]
    obtain ⟨o1, o2, o3, o4⟩ := cerr_ok h0
    simp only [h0, if_true]
    exact ⟨fun _ => ⟨w, g, 0, 0, 0, l, 0, [], rfl, ⟨o1, o4, o3, by omega, by omega, by omega, by omega, rfl⟩, by omega⟩, rfl⟩
  · have hb : (!(cerr l w g == 0)) = true := by simp [h0]
    simp only [hb, if_true, h0, if_false]
    rfl
end Go.Proofs.Ytnfndnaddnoiaaa.rv
