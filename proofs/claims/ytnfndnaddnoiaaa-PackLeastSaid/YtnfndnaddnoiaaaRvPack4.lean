/-
  Packing: extents, equality, the best width, boxes apart.
-/
import Derived.Test.YtnfndnaddnoiaaaRvPack3
namespace Go.Proofs.Ytnfndnaddnoiaaa.rv
open Go.RV

theorem dropQ_at (l : List Bx) {j : Nat} (h : j < l.length) : l.drop j = l.getD j q0 :: l.drop (j + 1) := by
  rw [List.drop_eq_getElem_cons h]
  simp [List.getD, h]

theorem loopM25 : LoopMeets Try.prog F (R L25_0.key) L25_0 lb25_0 := by
  refine loop_meets (pre := R) mixed (hM0 (l := sg25) rfl) (loops_n 0 lk25_0 fun k hk => by omega) L25_0 (fun ρ => ((ρ.getD 2 default).int - (ρ.getD 3 default).int).toNat) le25_0 fun ρ _ hp => ?_
  obtain ⟨n, l, j, rfl, hj, hm⟩ : pr25 ρ := hp
  rw [maxLen_val] at hm
  have d0 : decide ((0 : Int) ≤ (j : Int)) = true := decide_eq_true (by omega)
  by_cases hlt : j < l.length
  · have d1 : decide ((j : Int) < (l.length : Int)) = true := decide_eq_true (by omega)
    have hgt : (l.map encQ).getD j [] = encQ (l.getD j q0) := row_get q0 hlt
    have hw : IntKind.i64.wrap ((j : Int) + 1) = ((j + 1 : Nat) : Int) := nat_wrap (by omega)
    have hdr := dropQ_at l hlt
    simp only [rt25_0, VT.ok, Nd.holds, X.ds, X.d, Op1.ev, Op2.ev, List.getD_cons_zero, List.getD_cons_succ, D.int_i, D.bool_b, D.lst_l, imax, Int.toNat_natCast, List.length_map, if_true, implies_true, true_and, d0, d1, hgt, encQ, hw]
    refine round_next ⟨⟨ext1 n (l.getD j q0), l, j + 1, rfl, by omega, hm⟩, ?_, ?_⟩
    · show ((l.length : Int) - ((j + 1 : Nat) : Int)).toNat < ((l.length : Int) - (j : Int)).toNat
      omega
    · show lp25 [.i (ext1 n (l.getD j q0)), .l (l.map encQ), .i (l.length : Int), .i ((j + 1 : Nat) : Int)] = lp25 [.i n, .l (l.map encQ), .i (l.length : Int), .i (j : Int)]
      simp only [lp25, map_decQ, List.length_map, Int.toNat_natCast, hdr, List.foldl_cons]
  · have hj : j = l.length := by omega
    subst hj
    have d1 : decide ((l.length : Int) < (l.length : Int)) = false := decide_eq_false (by omega)
    simp only [rt25_0, VT.ok, Nd.holds, X.ds, X.d, Op1.ev, Op2.ev, List.getD_cons_zero, List.getD_cons_succ, D.int_i, D.bool_b, D.lst_l, imax, Int.toNat_natCast, List.length_map, Bool.false_eq_true, if_false, d1]
    refine round_exit (by omega) ?_
    show lp25 [.i n, .l (l.map encQ), .i (l.length : Int), .i (l.length : Int)] = _
    simp only [lp25, map_decQ, List.length_map, Int.toNat_natCast, List.drop_length, List.foldl_nil]
theorem loopM17 : LoopMeets Try.prog F (R L17_0.key) L17_0 lb17_0 := by
  refine loop_meets (pre := R) mixed (hM0 (l := sg17) rfl) (loops_n 0 lk17_0 fun k hk => by omega) L17_0 (fun ρ => (((ρ.getD 0 default).lst.length : Int) - (ρ.getD 2 default).int).toNat) le17_0 fun ρ _ hp => ?_
  obtain ⟨n, l, j, rfl, hj, hm⟩ : pr17 ρ := hp
  rw [maxLen_val] at hm
  have d0 : decide ((0 : Int) ≤ (j : Int)) = true := decide_eq_true (by omega)
  by_cases hlt : j < l.length
  · have d1 : decide ((j : Int) < (l.length : Int)) = true := decide_eq_true (by omega)
    have hgt : (l.map encQ).getD j [] = encQ (l.getD j q0) := row_get q0 hlt
    have hw : IntKind.i64.wrap ((j : Int) + 1) = ((j + 1 : Nat) : Int) := nat_wrap (by omega)
    have hdr := dropQ_at l hlt
    simp only [rt17_0, VT.ok, Nd.holds, X.ds, X.d, Op1.ev, Op2.ev, List.getD_cons_zero, List.getD_cons_succ, D.int_i, D.bool_b, D.lst_l, imax, Int.toNat_natCast, List.length_map, if_true, implies_true, true_and, d0, d1, hgt, encQ, hw]
    refine round_next ⟨⟨ext1 n (l.getD j q0), l, j + 1, rfl, by omega, hm⟩, ?_, ?_⟩
    · show (((l.map encQ).length : Int) - ((j + 1 : Nat) : Int)).toNat < (((l.map encQ).length : Int) - (j : Int)).toNat
      rw [List.length_map]; omega
    · show lp17 [.l (l.map encQ), .i (ext1 n (l.getD j q0)), .i ((j + 1 : Nat) : Int)] = lp17 [.l (l.map encQ), .i n, .i (j : Int)]
      simp only [lp17, map_decQ, List.length_map, Int.toNat_natCast, hdr, List.foldl_cons]
  · have hj : j = l.length := by omega
    subst hj
    have d1 : decide ((l.length : Int) < (l.length : Int)) = false := decide_eq_false (by omega)
    simp only [rt17_0, VT.ok, Nd.holds, X.ds, X.d, Op1.ev, Op2.ev, List.getD_cons_zero, List.getD_cons_succ, D.int_i, D.bool_b, D.lst_l, imax, Int.toNat_natCast, List.length_map, Bool.false_eq_true, if_false, d1]
    refine round_exit (by omega) ?_
    show lp17 [.l (l.map encQ), .i n, .i (l.length : Int)] = _
    simp only [lp17, map_decQ, List.length_map, Int.toNat_natCast, List.drop_length, List.foldl_nil]
theorem m25 : Meets Try.prog 25 S25 extPre extD := by
  refine meets_of_vt (pre := R) (Φ := F) mixed (hM0 (l := sg25) rfl) Try.func25 b25 n25 (loops_n 1 k25 fun k hk => ?_) e25 fun ds _ hp => ?_
  · match k, hk with
    | 0, _ => exact loop_this lf25_0 loopM25
  obtain ⟨l, rfl, hm⟩ := hp
  have hl : lp25 [.i 0, .l (l.map encQ), .i (l.length : Int), .i 0] = [.i 0, .i (ext l), .i (l.length : Int)] := by
    simp only [lp25, map_decQ, List.length_map]; rfl
  simp only [vt25, VT.ok, Nd.holds, X.outs, X.ds, X.d, Op1.ev, takeD_zero, takeD_cons, List.cons_append, List.nil_append, List.getD_cons_zero, List.getD_cons_succ, D.bool_b, D.lst_l, List.length_map, and_true, show F 12500 = lp25 from rfl, show R 12500 = pr25 from rfl, hl, extD, map_decQ]
  exact fun _ => ⟨0, l, 0, rfl, by omega, hm⟩
theorem m17 : Meets Try.prog 17 S17 extPre extD := by
  refine meets_of_vt (pre := R) (Φ := F) mixed (hM0 (l := sg17) rfl) Try.func17 b17 n17 (loops_n 1 k17 fun k hk => ?_) e17 fun ds _ hp => ?_
  · match k, hk with
    | 0, _ => exact loop_this lf17_0 loopM17
  obtain ⟨l, rfl, hm⟩ := hp
  have hl : lp17 [.l (l.map encQ), .i 0, .i 0] = [.i 0, .i (ext l), .i (l.length : Int)] := by
    simp only [lp17, map_decQ, List.length_map]; rfl
  simp only [vt17, VT.ok, Nd.holds, X.outs, X.ds, X.d, takeD_zero, takeD_cons, List.cons_append, List.nil_append, List.getD_cons_zero, List.getD_cons_succ, D.bool_b, and_true, show F 11700 = lp17 from rfl, show R 11700 = pr17 from rfl, hl, extD, map_decQ]
  exact fun _ => ⟨0, l, 0, rfl, by omega, hm⟩

/-! ### the same list twice -/
theorem loopM11 : LoopMeets Try.prog F (R L11_0.key) L11_0 lb11_0 := by
  refine loop_meets (pre := R) mixed (hM0 (l := sg11) rfl) (loops_n 0 lk11_0 fun k hk => by omega) L11_0 (fun ρ => (((ρ.getD 0 default).lst.length : Int) - (ρ.getD 3 default).int).toNat) le11_0 fun ρ _ hp => ?_
  obtain ⟨l, v, j, rfl, hj, hm⟩ : pr11 ρ := hp
  rw [maxLen_val] at hm
  have d0 : decide ((0 : Int) ≤ (j : Int)) = true := decide_eq_true (by omega)
  by_cases hlt : j < l.length
  · have d1 : decide ((j : Int) < (l.length : Int)) = true := decide_eq_true (by omega)
    have hw : IntKind.i64.wrap ((j : Int) + 1) = ((j + 1 : Nat) : Int) := nat_wrap (by omega)
    simp only [rt11_0, VT.ok, Nd.holds, X.ds, X.d, Op1.ev, Op2.ev, List.getD_cons_zero, List.getD_cons_succ, D.int_i, D.bool_b, D.lst_l, Int.toNat_natCast, List.length_map, if_true, Bool.false_eq_true, if_false, implies_true, true_and, d0, d1, hw, beq_self_eq_true, Bool.not_true]
    refine round_next ⟨⟨l, v, j + 1, rfl, by omega, hm⟩, ?_, rfl⟩
    show (((l.map encQ).length : Int) - ((j + 1 : Nat) : Int)).toNat < (((l.map encQ).length : Int) - (j : Int)).toNat
    rw [List.length_map]; omega
  · have hj : j = l.length := by omega
    subst hj
    have d1 : decide ((l.length : Int) < (l.length : Int)) = false := decide_eq_false (by omega)
    simp only [rt11_0, VT.ok, Nd.holds, X.ds, X.d, Op1.ev, Op2.ev, List.getD_cons_zero, List.getD_cons_succ, D.int_i, D.bool_b, D.lst_l, ite_b, ite_and, Int.toNat_natCast, List.length_map, Bool.false_eq_true, if_false, d1]
    refine round_exit (by omega) ?_
    show lp11 [.l (l.map encQ), .l (l.map encQ), v, .i (l.length : Int)] = _
    simp only [lp11, List.length_map]
theorem m11 : Meets Try.prog 11 S11 samePre one := by
  refine meets_of_vt (pre := R) (Φ := F) mixed (hM0 (l := sg11) rfl) Try.func11 b11 n11 (loops_n 1 k11 fun k hk => ?_) e11 fun ds _ hp => ?_
  · match k, hk with
    | 0, _ => exact loop_this lf11_0 loopM11
  obtain ⟨l, rfl, hm⟩ := hp
  have hl : lp11 [.l (l.map encQ), .l (l.map encQ), .b false, .i 0] = [.i 1, .b false, .i (l.length : Int)] := by
    simp only [lp11, List.length_map]
  simp only [vt11, VT.ok, Nd.holds, X.outs, X.ds, X.d, Op1.ev, Op2.ev, takeD_zero, takeD_cons, List.cons_append, List.nil_append, List.getD_cons_zero, List.getD_cons_succ, D.int_i, D.bool_b, D.lst_l, List.length_map, Bool.false_eq_true, if_false, and_true, show F 11100 = lp11 from rfl, show R 11100 = pr11 from rfl, hl, one, beq_self_eq_true, Bool.not_true, show ((1 : Int) == 0) = false from rfl]
  exact fun _ => ⟨l, .b false, 0, rfl, by omega, hm⟩

/-! ### the best width -/
theorem beInv_at {l : List Pt} {g w : Int} {j : Nat} {b : List Bx} (h : beInv l g w j b) (hlt : j < l.length) : (0 ≤ (l.getD j p0).1 ∧ (l.getD j p0).1 ≤ 1048576) ∧ w ≤ 134217728 ∧ (0 ≤ g ∧ g ≤ 1048576) := by
  obtain ⟨h1, h2, h3, h4, h5, h6⟩ := h
  refine ⟨?_, by omega, h3⟩
  have := h1 l[j] (List.getElem_mem hlt)
  have e : l.getD j p0 = l[j] := by simp [List.getD, hlt]
  rw [e]
  exact this.1
theorem beInv_next {l : List Pt} {g w : Int} {j : Nat} {b b' : List Bx} (h : beInv l g w j b) (hlt : j < l.length) (hb : b'.length ≤ 64) : beInv l g (w + (g + (l.getD j p0).1)) (j + 1) b' := by
  have := beInv_at h hlt
  obtain ⟨h1, h2, h3, h4, h5, h6⟩ := h
  exact ⟨h1, h2, h3, by omega, by omega, hb⟩

theorem hM14 {l : List (FuncId × Sig)} (h : ∀ e ∈ l, e = (18, S18) ∨ e = (19, S19) ∨ e = (25, S25) ∨ e = (20, S20) ∨ e = (10, S10) ∨ e = (17, S17)) : ∀ f S, sgOf l f = some S → Meets Try.prog f S (R f) (F f) := sgOf_all (l := l) (by
  intro e he
  rcases h e he with rfl | rfl | rfl | rfl | rfl | rfl
  · exact m18
  · exact m19
  · exact m25
  · exact m20
  · exact m10
  · exact m17)

theorem loopM14 : LoopMeets Try.prog F (R L14_0.key) L14_0 lb14_0 := by
  refine loop_meets (pre := R) mixed (hM14 (l := sg14) (by simp [sg14])) (loops_n 0 lk14_0 fun k hk => by omega) L14_0 (fun ρ => ((ρ.getD 5 default).int - (ρ.getD 6 default).int).toNat) le14_0 fun ρ _ hp => ?_
  obtain ⟨l, g, w, j, b, rfl, hI⟩ : pr14 ρ := hp
  have hI' := hI
  obtain ⟨hs, h64, hg0, hj, hw0, hb64⟩ := hI'
  have d0 : decide ((0 : Int) ≤ (j : Int)) = true := decide_eq_true (by omega)
  by_cases hlt : j < l.length
  · have d1 : decide ((j : Int) < (l.length : Int)) = true := decide_eq_true (by omega)
    have hgt : (l.map encP).getD j [] = encP (l.getD j p0) := row_get p0 hlt
    have hw : IntKind.i64.wrap ((j : Int) + 1) = ((j + 1 : Nat) : Int) := nat_wrap (by omega)
    have hdr := drop_at l hlt
    have hat := beInv_at hI hlt
    have w1 : IntKind.i64.wrap (g + (l.getD j p0).1) = g + (l.getD j p0).1 := w64 (by omega)
    have w2 : IntKind.i64.wrap (w + (g + (l.getD j p0).1)) = w + (g + (l.getD j p0).1) := w64 (by omega)
    have hsh : ∀ v, shD [.l (l.map encP), .i v, .i g] = [.l ((shel v g l).map encQ)] := fun v => by simp only [shD, map_decP]
    have hex : ∀ q : List Bx, extD [.l (q.map encQ)] = [.i (ext q)] := fun q => by simp only [extD, map_decQ]
    simp only [rt14_0, VT.ok, Nd.holds, X.outs, X.ds, X.d, Op1.ev, Op2.ev, takeD_zero, takeD_cons, List.cons_append, List.nil_append, List.getD_cons_zero, List.getD_cons_succ, D.int_i, D.bool_b, D.lst_l, ite_b, ite_or, Int.toNat_natCast, List.length_map, if_true, implies_true, true_and, d0, d1, hgt, encP, hw, w1, w2, show F 19 = shD from rfl, show R 19 = shPre from rfl, show F 25 = extD from rfl, show R 25 = extPre from rfl, hsh, hex]
    have hj0 : (((j : Nat) : Int) == 0) = (j == 0) := by
      rw [Bool.eq_iff_iff]; simp
    have hl64 : (shel (w + (g + (l.getD j p0).1)) g l).length ≤ 64 := by rw [shel_len]; exact h64
    have hml : (shel (w + (g + (l.getD j p0).1)) g l).length ≤ maxLen := by rw [maxLen_val]; omega
    have hbl : b.length ≤ maxLen := by rw [maxLen_val]; omega
    refine ⟨fun _ => ⟨l, _, g, rfl, hs, h64, hg0, by omega⟩, fun _ => ⟨_, rfl, hml⟩, fun _ => ⟨_, rfl, hbl⟩, ?_⟩
    rw [hj0]
    have key : ∀ b' : List Bx, b'.length ≤ 64 → (if (j == 0) = true ∨ ext (shel (w + (g + (l.getD j p0).1)) g l) < ext b then shel (w + (g + (l.getD j p0).1)) g l else b) = b' → RoundOk F (R L14_0.key) (fun ρ => ((ρ.getD 5 default).int - (ρ.getD 6 default).int).toNat) L14_0 [.l (l.map encP), .i g, .l (b.map encQ), .i w, .l (l.map encP), .i (l.length : Int), .i (j : Int)] [.i (-1), .l (b'.map encQ), .i (w + (g + (l.getD j p0).1)), .i ((j + 1 : Nat) : Int)] := by
      intro b' hb' he
      refine round_next ⟨⟨l, g, _, j + 1, b', rfl, beInv_next hI hlt hb'⟩, ?_, ?_⟩
      · show ((l.length : Int) - ((j + 1 : Nat) : Int)).toNat < ((l.length : Int) - (j : Int)).toNat
        omega
      · show lp14 [.l (l.map encP), .i g, .l (b'.map encQ), .i (w + (g + (l.getD j p0).1)), .l (l.map encP), .i (l.length : Int), .i ((j + 1 : Nat) : Int)] = lp14 [.l (l.map encP), .i g, .l (b.map encQ), .i w, .l (l.map encP), .i (l.length : Int), .i (j : Int)]
        simp only [lp14, map_decP, map_decQ, Int.toNat_natCast, hdr, bestF, he]
    split
    · rename_i hc
      exact key _ hl64 (if_pos (by simpa using hc))
    · rename_i hc
      exact key _ hb64 (if_neg (by simpa using hc))
  · have hj : j = l.length := by omega
    subst hj
    have d1 : decide ((l.length : Int) < (l.length : Int)) = false := decide_eq_false (by omega)
    simp only [rt14_0, VT.ok, Nd.holds, X.outs, X.ds, X.d, Op1.ev, Op2.ev, List.cons_append, List.nil_append, List.getD_cons_zero, List.getD_cons_succ, D.int_i, D.bool_b, D.lst_l, ite_b, ite_or, Int.toNat_natCast, List.length_map, Bool.false_eq_true, if_false, d1]
    refine round_exit (by omega) ?_
    show lp14 [.l (l.map encP), .i g, .l (b.map encQ), .i w, .l (l.map encP), .i (l.length : Int), .i (l.length : Int)] = _
    simp only [lp14, map_decP, map_decQ, Int.toNat_natCast, List.drop_length, bestF]

theorem cerr_any {l : List Pt} {g w : Int} (hs : szOk l) (h64 : l.length ≤ 64) (hg : 0 ≤ g ∧ g ≤ 1048576) (hw : 0 ≤ w ∧ w ≤ 268435456) : cerr l w g = 0 := by
  have h1 : anyN (badAt l) l.length = false := anyN_false.2 fun j hj => by
    have e : l.getD j p0 = l[j] := by simp [List.getD, hj]
    rw [badAt, e, badP_iff]
    exact hs _ (List.getElem_mem hj)
  have h2 : argBad w g = false := by
    rw [Bool.eq_false_iff]
    intro h
    simp only [argBad, Bool.or_eq_true, decide_eq_true_eq] at h
    omega
  simp only [cerr, h1, h2, Bool.false_eq_true, if_false]
  rw [if_neg (by omega)]

theorem loopM15 : LoopMeets Try.prog F (R L15_0.key) L15_0 lb15_0 := by
  refine loop_meets (pre := R) mixed (hM14 (l := sg15) (by simp [sg15])) (loops_n 0 lk15_0 fun k hk => by omega) L15_0 (fun ρ => (((ρ.getD 0 default).lst.length : Int) - (ρ.getD 4 default).int).toNat) le15_0 fun ρ _ hp => ?_
  obtain ⟨l, g, w, j, b, rfl, hI, hj0, hwp⟩ : pr15 ρ := hp
  have hI' := hI
  obtain ⟨hs, h64, hg0, hj, hw0, hb64⟩ := hI'
  have d0 : decide ((0 : Int) ≤ (j : Int)) = true := decide_eq_true (by omega)
  by_cases hlt : j < l.length
  · have d1 : decide ((j : Int) < (l.length : Int)) = true := decide_eq_true (by omega)
    have hgt : (l.map encP).getD j [] = encP (l.getD j p0) := row_get p0 hlt
    have hw : IntKind.i64.wrap ((j : Int) + 1) = ((j + 1 : Nat) : Int) := nat_wrap (by omega)
    have hdr := drop_at l hlt
    have hat := beInv_at hI hlt
    have hsh : ∀ v, 0 ≤ v ∧ v ≤ 268435456 → shelvesD [.l (l.map encP), .i v, .i g] = [.l ((shel v g l).map encQ), .i 0] := fun v hv => by
      simp only [shelvesD, map_decP, cerr_any hs h64 hg0 hv, if_true]
    have hex : ∀ q : List Bx, extD [.l (q.map encQ)] = [.i (ext q)] := fun q => by simp only [extD, map_decQ]
    have hjb : (((j : Nat) : Int) == 0) = (j == 0) := by
      rw [Bool.eq_iff_iff]; simp
    have hbl : b.length ≤ maxLen := by rw [maxLen_val]; omega
    have hml : ∀ v, (shel v g l).length ≤ maxLen := fun v => by rw [shel_len, maxLen_val]; omega
    have key : ∀ (v : Int) (b' : List Bx), v = (if (j : Int) = 0 then w - g else w) + (g + (l.getD j p0).1) → 0 ≤ v → b'.length ≤ 64 → (if (j == 0) = true ∨ ext (shel v g l) < ext b then shel v g l else b) = b' → RoundOk F (R L15_0.key) (fun ρ => (((ρ.getD 0 default).lst.length : Int) - (ρ.getD 4 default).int).toNat) L15_0 [.l (l.map encP), .i g, .l (b.map encQ), .i w, .i (j : Int)] [.i (-1), .l (b'.map encQ), .i v, .i ((j + 1 : Nat) : Int)] := by
      intro v b' hv hv0 hb' he
      have hbe : beInv l g v (j + 1) b' := by
        refine ⟨hs, h64, hg0, by omega, ?_, hb'⟩
        split at hv
        · have := hj0 (by omega); omega
        · omega
      refine round_next ⟨⟨l, g, v, j + 1, b', rfl, hbe, fun h => by omega, hv0⟩, ?_, ?_⟩
      · show (((l.map encP).length : Int) - ((j + 1 : Nat) : Int)).toNat < (((l.map encP).length : Int) - (j : Int)).toNat
        rw [List.length_map]; omega
      · show lp15 [.l (l.map encP), .i g, .l (b'.map encQ), .i v, .i ((j + 1 : Nat) : Int)] = lp15 [.l (l.map encP), .i g, .l (b.map encQ), .i w, .i (j : Int)]
        have hn : ¬ ((j + 1 : Nat) : Int) = 0 := by omega
        simp only [lp15, map_decP, map_decQ, Int.toNat_natCast, hdr, bestF, hn, if_false, List.length_map, ← hv, he]
        rw [if_neg (by omega : ¬ l.length = j)]
        split
        · rename_i hx
          have : l.drop (j + 1) = [] := List.drop_of_length_le (by omega)
          rw [this]
          rfl
        · rfl
    by_cases hz : j = 0
    · subst hz
      have hw00 := hj0 rfl
      subst hw00
      have d2 : decide ((0 : Int) < ((0 : Nat) : Int)) = false := by decide
      have w2 : IntKind.i64.wrap (0 + (l.getD 0 p0).1) = 0 + (l.getD 0 p0).1 := w64 (by omega)
      simp only [rt15_0, VT.ok, Nd.holds, X.outs, X.ds, X.d, Op1.ev, Op2.ev, takeD_zero, takeD_cons, List.cons_append, List.nil_append, List.getD_cons_zero, List.getD_cons_succ, D.int_i, D.bool_b, D.lst_l, ite_b, ite_or, Int.toNat_natCast, List.length_map, if_true, Bool.false_eq_true, if_false, implies_true, true_and, d0, d1, d2, hgt, encP, hw, w2, show F 10 = shelvesD from rfl, show R 10 = chkPre from rfl, show F 17 = extD from rfl, show R 17 = extPre from rfl, hsh _ (show 0 ≤ 0 + (l.getD 0 p0).1 ∧ 0 + (l.getD 0 p0).1 ≤ 268435456 by omega), hex]
      refine ⟨fun _ => ⟨l, _, g, rfl, by rw [maxLen_val]; omega⟩, fun _ => ⟨_, rfl, hml _⟩, fun _ => ⟨_, rfl, hbl⟩, ?_⟩
      rw [show (((0 : Nat) : Int) == 0) = true from rfl]
      simp only [Bool.true_or, if_true]
      exact key (0 + (l.getD 0 p0).1) _ (by rw [if_pos (by omega)]; omega) (by omega) (by rw [shel_len]; exact h64) (by simp)
    · have d2 : decide ((0 : Int) < (j : Int)) = true := decide_eq_true (by omega)
      have w1 : IntKind.i64.wrap (w + g) = w + g := w64 (by omega)
      have w2 : IntKind.i64.wrap (w + g + (l.getD j p0).1) = w + g + (l.getD j p0).1 := w64 (by omega)
      simp only [rt15_0, VT.ok, Nd.holds, X.outs, X.ds, X.d, Op1.ev, Op2.ev, takeD_zero, takeD_cons, List.cons_append, List.nil_append, List.getD_cons_zero, List.getD_cons_succ, D.int_i, D.bool_b, D.lst_l, ite_b, ite_or, Int.toNat_natCast, List.length_map, if_true, implies_true, true_and, d0, d1, d2, hgt, encP, hw, w1, w2, show F 10 = shelvesD from rfl, show R 10 = chkPre from rfl, show F 17 = extD from rfl, show R 17 = extPre from rfl, hsh _ (show 0 ≤ w + g + (l.getD j p0).1 ∧ w + g + (l.getD j p0).1 ≤ 268435456 by omega), hex]
      refine ⟨fun _ => ⟨l, _, g, rfl, by rw [maxLen_val]; omega⟩, fun _ => ⟨_, rfl, hml _⟩, fun _ => ⟨_, rfl, hbl⟩, ?_⟩
      rw [hjb]
      split
      · rename_i hc
        exact key _ _ (by rw [if_neg (by omega)]; omega) (by omega) (by rw [shel_len]; exact h64) (if_pos (by simpa using hc))
      · rename_i hc
        exact key _ _ (by rw [if_neg (by omega)]; omega) (by omega) hb64 (if_neg (by simpa using hc))
  · have hj : j = l.length := by omega
    subst hj
    have d1 : decide ((l.length : Int) < (l.length : Int)) = false := decide_eq_false (by omega)
    simp only [rt15_0, VT.ok, Nd.holds, X.outs, X.ds, X.d, Op1.ev, Op2.ev, List.cons_append, List.nil_append, List.getD_cons_zero, List.getD_cons_succ, D.int_i, D.bool_b, D.lst_l, ite_b, ite_or, Int.toNat_natCast, List.length_map, Bool.false_eq_true, if_false, d1]
    refine round_exit (by omega) ?_
    show lp15 [.l (l.map encP), .i g, .l (b.map encQ), .i w, .i (l.length : Int)] = _
    simp only [lp15, map_decP, map_decQ, Int.toNat_natCast, List.drop_length, bestF, List.length_map, if_true]

theorem m14 : Meets Try.prog 14 S14 bestPre bestD := by
  refine meets_of_vt (pre := R) (Φ := F) mixed (hM14 (l := sg14) (by simp [sg14])) Try.func14 b14 n14 (loops_n 1 k14 fun k hk => ?_) e14 fun ds _ hp => ?_
  · match k, hk with
    | 0, _ => exact loop_this lf14_0 loopM14
  obtain ⟨l, g, rfl, hm⟩ := hp
  have hc : chkD [.l (l.map encP), .i 0, .i g] = [.i (cerr l 0 g)] := by simp only [chkD, map_decP]
  have hl : ∀ v, lp14 [.l (l.map encP), .i g, .l [], .i v, .l (l.map encP), .i (l.length : Int), .i 0] = [.i 0, .l ((bestF l g [] v 0 l).1.map encQ), .i (bestF l g [] v 0 l).2, .i (l.length : Int)] := by
    intro v
    simp only [lp14, map_decP]; rfl
  simp only [vt14, VT.ok, Nd.holds, X.outs, X.ds, X.d, Op1.ev, Op2.ev, takeD_zero, takeD_cons, List.cons_append, List.nil_append, List.getD_cons_zero, List.getD_cons_succ, D.int_i, D.bool_b, D.lst_l, List.length_map, show F 18 = chkD from rfl, show F 11400 = lp14 from rfl, show R 18 = chkPre from rfl, show R 11400 = pr14 from rfl, hc, hl, bestD, map_decP]
  refine ⟨fun _ => ⟨l, 0, g, rfl, hm⟩, ?_⟩
  by_cases h0 : cerr l 0 g = 0
  · have hb : (!(cerr l 0 g == 0)) = false := by simp [h0]
    obtain ⟨o1, o2, o3, o4⟩ := cerr_ok h0
    have w1 : IntKind.i64.wrap (0 - g) = -g := by rw [w64 (by omega)]; omega
    simp only [h0, if_true, w1]
    exact ⟨fun _ => ⟨l, g, -g, 0, [], rfl, o1, o4, o3, by omega, by omega, by simp⟩, rfl⟩
  · have hb : (!(cerr l 0 g == 0)) = true := by simp [h0]
    simp only [hb, if_true, h0, if_false]
    rfl
theorem m15 : Meets Try.prog 15 S15 bestPre bestD := by
  refine meets_of_vt (pre := R) (Φ := F) mixed (hM14 (l := sg15) (by simp [sg15])) Try.func15 b15 n15 (loops_n 1 k15 fun k hk => ?_) e15 fun ds _ hp => ?_
  · match k, hk with
    | 0, _ => exact loop_this lf15_0 loopM15
  obtain ⟨l, g, rfl, hm⟩ := hp
  have hc : chkD [.l (l.map encP), .i 0, .i g] = [.i (cerr l 0 g)] := by simp only [chkD, map_decP]
  have hl : ∃ v, lp15 [.l (l.map encP), .i g, .l [], .i 0, .i 0] = [.i 0, .l ((best l g).map encQ), .i v, .i (l.length : Int)] := by
    simp only [lp15, map_decP, List.length_map]
    have : (0 : Int) - g = -g := by omega
    simp only [if_true, this]
    exact ⟨_, rfl⟩
  obtain ⟨v, hl⟩ := hl
  simp only [vt15, VT.ok, Nd.holds, X.outs, X.ds, X.d, Op1.ev, Op2.ev, takeD_zero, takeD_cons, List.cons_append, List.nil_append, List.getD_cons_zero, List.getD_cons_succ, D.int_i, D.bool_b, show F 20 = chkD from rfl, show F 11500 = lp15 from rfl, show R 20 = chkPre from rfl, show R 11500 = pr15 from rfl, hc, hl, bestD, map_decP]
  refine ⟨fun _ => ⟨l, 0, g, rfl, hm⟩, ?_⟩
  by_cases h0 : cerr l 0 g = 0
  · have hb : (!(cerr l 0 g == 0)) = false := by simp [h0]
    obtain ⟨o1, o2, o3, o4⟩ := cerr_ok h0
    simp only [h0, if_true]
    exact ⟨fun _ => ⟨l, g, 0, 0, [], rfl, ⟨o1, o4, o3, by omega, by omega, by simp⟩, fun _ => rfl, by omega⟩, trivial⟩
  · have hb : (!(cerr l 0 g == 0)) = true := by simp [h0]
    simp only [hb, if_true, h0, if_false]
    rfl
end Go.Proofs.Ytnfndnaddnoiaaa.rv
