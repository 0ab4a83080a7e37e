/-
  Packing: boxes apart by a gap; the examples; the laws that compare with the reference.
-/
import Derived.Test.YtnfndnaddnoiaaaRvPack4
namespace Go.Proofs.Ytnfndnaddnoiaaa.rv
open Go.RV

theorem near_take {l : List Bx} {j : Nat} (h : j ≤ l.length) (wide : Bx) : anyN (nearAt (l.take j) wide) (l.take j).length = anyN (nearAt l wide) j := by
  have hl : (l.take j).length = j := by rw [List.length_take]; omega
  rw [hl, Bool.eq_iff_iff, anyN_iff, anyN_iff]
  constructor
  · rintro ⟨i, h1, h2⟩
    refine ⟨i, h1, ?_⟩
    have : (l.take j).getD i q0 = l.getD i q0 := by simp [List.getD, h1]
    rw [nearAt, this] at h2
    exact h2
  · rintro ⟨i, h1, h2⟩
    refine ⟨i, h1, ?_⟩
    have : (l.take j).getD i q0 = l.getD i q0 := by simp [List.getD, h1]
    rw [nearAt, this]
    exact h2

theorem hMbox {l : List (FuncId × Sig)} (h : ∀ e ∈ l, e = (21, S21) ∨ e = (22, S22) ∨ e = (23, S23) ∨ e = (24, S24)) : ∀ f S, sgOf l f = some S → Meets Try.prog f S (R f) (F f) := sgOf_all (l := l) (by
  intro e he
  rcases h e he with rfl | rfl | rfl | rfl
  · exact m21
  · exact m22
  · exact m23
  · exact m24)

theorem loopM12i : LoopMeets Try.prog F (R L12_1.key) L12_1 lb12_1 := by
  refine loop_meets (pre := R) mixed (hMbox (l := sg12) (by simp [sg12])) (loops_n 0 lk12_1 fun k hk => by omega) L12_1 (fun ρ => ((ρ.getD 2 default).int - (ρ.getD 3 default).int).toNat) le12_1 fun ρ _ hp => ?_
  obtain ⟨v, l, j, q, rfl, hj, hm⟩ : pr12i ρ := hp
  rw [maxLen_val] at hm
  have d0 : decide ((0 : Int) ≤ (j : Int)) = true := decide_eq_true (by omega)
  by_cases hlt : j < l.length
  · have d1 : decide ((j : Int) < (l.length : Int)) = true := decide_eq_true (by omega)
    have hgt : (l.map encQ).getD j [] = encQ (l.getD j q0) := row_get q0 hlt
    have hw : IntKind.i64.wrap ((j : Int) + 1) = ((j + 1 : Nat) : Int) := nat_wrap (by omega)
    simp only [rt12_1, VT.ok, Nd.holds, X.outs, X.ds, X.d, Op1.ev, Op2.ev, takeD_zero, takeD_cons, List.cons_append, List.nil_append, List.getD_cons_zero, List.getD_cons_succ, D.int_i, D.bool_b, D.lst_l, Int.toNat_natCast, List.length_map, if_true, implies_true, true_and, d0, d1, hgt, encQ, hw, show F 22 = fn22 from rfl, fn22_eq]
    refine ⟨fun _ => trivial, ?_⟩
    show if nearAt l q j = true then _ else _
    split
    · rename_i hb
      refine round_exit (by omega) ?_
      show lp12i [v, .l (l.map encQ), .i (l.length : Int), .i (j : Int), .i q.1, .i q.2.1, .i q.2.2.1, .i q.2.2.2] = _
      simp only [lp12i, map_decQ, Int.toNat_natCast, lpNear]
      exact scan_hit hlt hb
    · rename_i hb
      refine round_next ⟨⟨v, l, j + 1, q, rfl, by omega, hm⟩, ?_, ?_⟩
      · show ((l.length : Int) - ((j + 1 : Nat) : Int)).toNat < ((l.length : Int) - (j : Int)).toNat
        omega
      · show lp12i [v, .l (l.map encQ), .i (l.length : Int), .i ((j + 1 : Nat) : Int), .i q.1, .i q.2.1, .i q.2.2.1, .i q.2.2.2] = lp12i [v, .l (l.map encQ), .i (l.length : Int), .i (j : Int), .i q.1, .i q.2.1, .i q.2.2.1, .i q.2.2.2]
        simp only [lp12i, map_decQ, Int.toNat_natCast, lpNear]
        exact scan_next hlt (by simpa using hb)
  · have hj : j = l.length := by omega
    subst hj
    have d1 : decide ((l.length : Int) < (l.length : Int)) = false := decide_eq_false (by omega)
    simp only [rt12_1, VT.ok, Nd.holds, X.outs, X.ds, X.d, Op1.ev, Op2.ev, List.cons_append, List.nil_append, List.getD_cons_zero, List.getD_cons_succ, D.int_i, D.bool_b, D.lst_l, Int.toNat_natCast, List.length_map, Bool.false_eq_true, if_false, d1]
    refine round_exit (by omega) ?_
    show lp12i [v, .l (l.map encQ), .i (l.length : Int), .i (l.length : Int), .i q.1, .i q.2.1, .i q.2.2.1, .i q.2.2.2] = _
    simp only [lp12i, map_decQ, Int.toNat_natCast, lpNear]
    exact scan_end

theorem take_map (l : List Bx) (j : Nat) : (l.map encQ).take j = (l.take j).map encQ := (List.map_take ..).symm

theorem loopM12 : LoopMeets Try.prog F (R L12_0.key) L12_0 lb12_0 := by
  refine loop_meets (pre := R) mixed (hMbox (l := sg12) (by simp [sg12])) (loops_n 1 lk12_0 fun k hk => ?_) L12_0 (fun ρ => ((ρ.getD 4 default).int - (ρ.getD 5 default).int).toNat) le12_0 fun ρ _ hp => ?_
  · match k, hk with
    | 0, _ => rw [li12_0_0]; exact loop_this lf12_1 loopM12i
  obtain ⟨g, v, l, j, rfl, hj, hm⟩ : pr12 ρ := hp
  have hm' := hm
  rw [maxLen_val] at hm
  have d0 : decide ((0 : Int) ≤ (j : Int)) = true := decide_eq_true (by omega)
  by_cases hlt : j < l.length
  · have d1 : decide ((j : Int) < (l.length : Int)) = true := decide_eq_true (by omega)
    have d2 : decide ((j : Int) ≤ (l.length : Int)) = true := decide_eq_true (by omega)
    have hgt : (l.map encQ).getD j [] = encQ (l.getD j q0) := row_get q0 hlt
    have hw : IntKind.i64.wrap ((j : Int) + 1) = ((j + 1 : Nat) : Int) := nat_wrap (by omega)
    have hin : ∀ q : Bx, lp12i [v, .l ((l.take j).map encQ), .i ((l.take j).length : Int), .i 0, .i q.1, .i q.2.1, .i q.2.2.1, .i q.2.2.2] = scanN (nearAt (l.take j) q) (fun i => [.i 0, .b false, .i (i : Int)]) (fun i => [.i 1, v, .i (i : Int)]) (l.take j).length 0 := fun q => by
      simp only [lp12i, map_decQ]; rfl
    simp only [rt12_0, VT.ok, Nd.holds, X.outs, X.ds, X.d, Op1.ev, Op2.ev, takeD_zero, takeD_cons, List.cons_append, List.nil_append, List.getD_cons_zero, List.getD_cons_succ, D.int_i, D.bool_b, D.lst_l, Int.toNat_natCast, List.length_map, if_true, implies_true, true_and, d0, d1, d2, hgt, encQ, hw, show F 21 = fn21 from rfl, fn21_eq, show Int.toNat 0 = 0 from rfl, List.drop_zero, take_map, show F 11200 = lp12i from rfl, show R 11200 = pr12i from rfl, hin]
    have hpre : ∀ q : Bx, pr12i [v, .l ((l.take j).map encQ), .i ((l.take j).length : Int), .i 0, .i q.1, .i q.2.1, .i q.2.2.1, .i q.2.2.2] := fun q => ⟨v, l.take j, 0, q, rfl, by omega, by rw [maxLen_val, List.length_take]; omega⟩
    refine ⟨fun _ => trivial, fun _ => hpre _, ?_⟩
    rcases scan_any (p := nearAt (l.take j) (infl (l.getD j q0) g)) (hit := fun i => [D.i 0, .b false, .i (i : Int)]) (miss := fun i => [D.i 1, v, .i (i : Int)]) (l.take j).length with ⟨h1, i, _, _, _, h2⟩ | ⟨h1, h2⟩
    · rw [near_take hj] at h1
      rw [h2]
      simp only [takeD_zero, takeD_cons, List.getD_cons_zero, List.getD_cons_succ, D.int_i, if_true, show ((0 : Int) == 0) = true from rfl]
      refine round_exit (by omega) ?_
      show lp12 [.l (l.map encQ), .i g, v, .l (l.map encQ), .i (l.length : Int), .i (j : Int)] = _
      simp only [lp12, map_decQ, Int.toNat_natCast, lpDis]
      exact scan_hit hlt h1
    · rw [near_take hj] at h1
      rw [h2]
      simp only [takeD_zero, takeD_cons, List.getD_cons_zero, List.getD_cons_succ, D.int_i, Bool.false_eq_true, if_false, show ((1 : Int) == 0) = false from rfl]
      refine round_next ⟨⟨g, v, l, j + 1, rfl, by omega, hm'⟩, ?_, ?_⟩
      · show ((l.length : Int) - ((j + 1 : Nat) : Int)).toNat < ((l.length : Int) - (j : Int)).toNat
        omega
      · show lp12 [.l (l.map encQ), .i g, v, .l (l.map encQ), .i (l.length : Int), .i ((j + 1 : Nat) : Int)] = lp12 [.l (l.map encQ), .i g, v, .l (l.map encQ), .i (l.length : Int), .i (j : Int)]
        simp only [lp12, map_decQ, Int.toNat_natCast, lpDis]
        exact scan_next hlt h1
  · have hj : j = l.length := by omega
    subst hj
    have d1 : decide ((l.length : Int) < (l.length : Int)) = false := decide_eq_false (by omega)
    simp only [rt12_0, VT.ok, Nd.holds, X.outs, X.ds, X.d, Op1.ev, Op2.ev, List.cons_append, List.nil_append, List.getD_cons_zero, List.getD_cons_succ, D.int_i, D.bool_b, D.lst_l, Int.toNat_natCast, List.length_map, Bool.false_eq_true, if_false, d1]
    refine round_exit (by omega) ?_
    show lp12 [.l (l.map encQ), .i g, v, .l (l.map encQ), .i (l.length : Int), .i (l.length : Int)] = _
    simp only [lp12, map_decQ, Int.toNat_natCast, lpDis]
    exact scan_end

theorem loopM13i : LoopMeets Try.prog F (R L13_1.key) L13_1 lb13_1 := by
  refine loop_meets (pre := R) mixed (hMbox (l := sg13) (by simp [sg13])) (loops_n 0 lk13_1 fun k hk => by omega) L13_1 (fun ρ => ((ρ.getD 3 default).int - (ρ.getD 4 default).int).toNat) le13_1 fun ρ _ hp => ?_
  obtain ⟨g, v, l, k, j, rfl, hk, hj, hm⟩ : pr13i ρ := hp
  have hm' := hm
  rw [maxLen_val] at hm
  have d0 : decide ((0 : Int) ≤ (j : Int)) = true := decide_eq_true (by omega)
  have d3 : decide ((0 : Int) ≤ (k : Int)) = true := decide_eq_true (by omega)
  have d4 : decide ((k : Int) < (l.length : Int)) = true := decide_eq_true (by omega)
  have hlk : (l.take k).length = k := by rw [List.length_take]; omega
  by_cases hlt : j < k
  · have d1 : decide ((j : Int) < (k : Int)) = true := decide_eq_true (by omega)
    have d2 : decide ((j : Int) < (l.length : Int)) = true := decide_eq_true (by omega)
    have hgt : (l.map encQ).getD j [] = encQ (l.getD j q0) := row_get q0 (by omega)
    have hgk : (l.map encQ).getD k [] = encQ (l.getD k q0) := row_get q0 hk
    have hw : IntKind.i64.wrap ((j : Int) + 1) = ((j + 1 : Nat) : Int) := nat_wrap (by omega)
    simp only [rt13_1, VT.ok, Nd.holds, X.outs, X.ds, X.d, Op1.ev, Op2.ev, takeD_zero, takeD_cons, List.cons_append, List.nil_append, List.getD_cons_zero, List.getD_cons_succ, D.int_i, D.bool_b, D.lst_l, Int.toNat_natCast, List.length_map, if_true, implies_true, true_and, d0, d1, d2, d3, d4, hgt, hgk, encQ, hw, show F 24 = fn24 from rfl, fn24_eq, show F 23 = fn23 from rfl, fn23_eq]
    refine ⟨fun _ => trivial, fun _ => trivial, ?_⟩
    have he : (l.take k).getD j q0 = l.getD j q0 := by simp [List.getD, hlt]
    have hn : ovl (l.getD j q0) (infl (l.getD k q0) g) = nearAt (l.take k) (infl (l.getD k q0) g) j := by rw [nearAt, he]
    rw [hn]
    split
    · rename_i hb
      refine round_exit (by omega) ?_
      show lp13i [.l (l.map encQ), .i g, v, .i (k : Int), .i (j : Int)] = _
      simp only [lp13i, map_decQ, Int.toNat_natCast, lpNear]
      exact scan_hit (by omega) hb
    · rename_i hb
      refine round_next ⟨⟨g, v, l, k, j + 1, rfl, hk, by omega, hm'⟩, ?_, ?_⟩
      · show ((k : Int) - ((j + 1 : Nat) : Int)).toNat < ((k : Int) - (j : Int)).toNat
        omega
      · show lp13i [.l (l.map encQ), .i g, v, .i (k : Int), .i ((j + 1 : Nat) : Int)] = lp13i [.l (l.map encQ), .i g, v, .i (k : Int), .i (j : Int)]
        simp only [lp13i, map_decQ, Int.toNat_natCast, lpNear]
        exact scan_next (by omega) (by simpa using hb)
  · have hj : j = k := by omega
    subst hj
    have d1 : decide ((j : Int) < (j : Int)) = false := decide_eq_false (by omega)
    simp only [rt13_1, VT.ok, Nd.holds, X.outs, X.ds, X.d, Op1.ev, Op2.ev, List.cons_append, List.nil_append, List.getD_cons_zero, List.getD_cons_succ, D.int_i, D.bool_b, D.lst_l, Int.toNat_natCast, List.length_map, Bool.false_eq_true, if_false, d1]
    refine round_exit (by omega) ?_
    show lp13i [.l (l.map encQ), .i g, v, .i (j : Int), .i (j : Int)] = _
    simp only [lp13i, map_decQ, Int.toNat_natCast, lpNear]
    rw [hlk]
    exact scan_end

theorem loopM13 : LoopMeets Try.prog F (R L13_0.key) L13_0 lb13_0 := by
  refine loop_meets (pre := R) mixed (hMbox (l := sg13) (by simp [sg13])) (loops_n 1 lk13_0 fun k hk => ?_) L13_0 (fun ρ => (((ρ.getD 0 default).lst.length : Int) - (ρ.getD 3 default).int).toNat) le13_0 fun ρ _ hp => ?_
  · match k, hk with
    | 0, _ => rw [li13_0_0]; exact loop_this lf13_1 loopM13i
  obtain ⟨g, v, l, j, rfl, hj, hm⟩ : pr13 ρ := hp
  have hm' := hm
  rw [maxLen_val] at hm
  by_cases hlt : j < l.length
  · have d1 : decide ((j : Int) < (l.length : Int)) = true := decide_eq_true (by omega)
    have hw : IntKind.i64.wrap ((j : Int) + 1) = ((j + 1 : Nat) : Int) := nat_wrap (by omega)
    have hin : lp13i [.l (l.map encQ), .i g, v, .i (j : Int), .i 0] = scanN (nearAt (l.take j) (infl (l.getD j q0) g)) (fun i => [.i 0, .b false, .i (i : Int)]) (fun i => [.i 1, v, .i (i : Int)]) (l.take j).length 0 := by
      simp only [lp13i, map_decQ, Int.toNat_natCast]; rfl
    simp only [rt13_0, VT.ok, Nd.holds, X.outs, X.ds, X.d, Op1.ev, Op2.ev, List.cons_append, List.nil_append, List.getD_cons_zero, List.getD_cons_succ, D.int_i, D.bool_b, D.lst_l, List.length_map, if_true, d1, hw, show F 11300 = lp13i from rfl, show R 11300 = pr13i from rfl, hin]
    refine ⟨fun _ => ⟨g, v, l, j, 0, rfl, hlt, by omega, hm'⟩, ?_⟩
    rcases scan_any (p := nearAt (l.take j) (infl (l.getD j q0) g)) (hit := fun i => [D.i 0, .b false, .i (i : Int)]) (miss := fun i => [D.i 1, v, .i (i : Int)]) (l.take j).length with ⟨h1, i, _, _, _, h2⟩ | ⟨h1, h2⟩
    · rw [near_take hj] at h1
      rw [h2]
      simp only [takeD_zero, takeD_cons, List.getD_cons_zero, List.getD_cons_succ, D.int_i, if_true, show ((0 : Int) == 0) = true from rfl]
      refine round_exit (by omega) ?_
      show lp13 [.l (l.map encQ), .i g, v, .i (j : Int)] = _
      simp only [lp13, map_decQ, Int.toNat_natCast, lpDis]
      exact scan_hit hlt h1
    · rw [near_take hj] at h1
      rw [h2]
      simp only [takeD_zero, takeD_cons, List.getD_cons_zero, List.getD_cons_succ, D.int_i, Bool.false_eq_true, if_false, show ((1 : Int) == 0) = false from rfl]
      refine round_next ⟨⟨g, v, l, j + 1, rfl, by omega, hm'⟩, ?_, ?_⟩
      · show (((l.map encQ).length : Int) - ((j + 1 : Nat) : Int)).toNat < (((l.map encQ).length : Int) - (j : Int)).toNat
        rw [List.length_map]; omega
      · show lp13 [.l (l.map encQ), .i g, v, .i ((j + 1 : Nat) : Int)] = lp13 [.l (l.map encQ), .i g, v, .i (j : Int)]
        simp only [lp13, map_decQ, Int.toNat_natCast, lpDis]
        exact scan_next hlt h1
  · have hj : j = l.length := by omega
    subst hj
    have d1 : decide ((l.length : Int) < (l.length : Int)) = false := decide_eq_false (by omega)
    simp only [rt13_0, VT.ok, Nd.holds, X.outs, X.ds, X.d, Op1.ev, Op2.ev, List.cons_append, List.nil_append, List.getD_cons_zero, List.getD_cons_succ, D.int_i, D.bool_b, D.lst_l, List.length_map, Bool.false_eq_true, if_false, d1]
    refine round_exit (by omega) ?_
    show lp13 [.l (l.map encQ), .i g, v, .i (l.length : Int)] = _
    simp only [lp13, map_decQ, Int.toNat_natCast, lpDis]
    exact scan_end

theorem dis_scan (v : D) (l : List Bx) (g : Int) : (disj l g = false ∧ ∃ k, lpDis g v l 0 = [.i 0, .b false, k]) ∨ (disj l g = true ∧ ∃ k, lpDis g v l 0 = [.i 1, v, k]) := by
  unfold lpDis
  rw [Nat.sub_zero]
  rcases scan_any (p := nearAny l g) (hit := fun i => [D.i 0, .b false, .i (i : Int)]) (miss := fun i => [D.i 1, v, .i (i : Int)]) l.length with ⟨h, i, _, _, _, e⟩ | ⟨h, e⟩
  · exact .inl ⟨by simp [disj, h], _, e⟩
  · exact .inr ⟨by simp [disj, h], _, e⟩

theorem m12 : Meets Try.prog 12 S12 disPre disD := by
  refine meets_of_vt (pre := R) (Φ := F) mixed (hMbox (l := sg12) (by simp [sg12])) Try.func12 b12 n12 (loops_n 2 k12 fun k hk => ?_) e12 fun ds _ hp => ?_
  · match k, hk with
    | 0, _ => exact loop_this lf12_0 loopM12
    | 1, _ => exact loop_this lf12_1 loopM12i
  obtain ⟨l, g, rfl, hm⟩ := hp
  have hl : lp12 [.l (l.map encQ), .i g, .b false, .l (l.map encQ), .i (l.length : Int), .i 0] = lpDis g (.b false) l 0 := by
    simp only [lp12, map_decQ]; rfl
  simp only [vt12, VT.ok, Nd.holds, X.outs, X.ds, X.d, Op1.ev, Op2.ev, List.cons_append, List.nil_append, List.getD_cons_zero, List.getD_cons_succ, D.int_i, D.bool_b, D.lst_l, List.length_map, show F 11201 = lp12 from rfl, show R 11201 = pr12 from rfl, hl, disD, map_decQ]
  refine ⟨fun _ => ⟨g, .b false, l, 0, rfl, by omega, hm⟩, ?_⟩
  rcases dis_scan (.b false) l g with ⟨h, k, e⟩ | ⟨h, k, e⟩ <;> rw [e]
  · simp only [takeD_zero, takeD_cons, List.getD_cons_zero, List.getD_cons_succ, D.int_i, if_true, h, show ((0 : Int) == 0) = true from rfl]
  · simp only [takeD_zero, takeD_cons, List.getD_cons_zero, List.getD_cons_succ, D.int_i, Bool.false_eq_true, if_false, h, show ((1 : Int) == 0) = false from rfl]
theorem m13 : Meets Try.prog 13 S13 disPre disD := by
  refine meets_of_vt (pre := R) (Φ := F) mixed (hMbox (l := sg13) (by simp [sg13])) Try.func13 b13 n13 (loops_n 2 k13 fun k hk => ?_) e13 fun ds _ hp => ?_
  · match k, hk with
    | 0, _ => exact loop_this lf13_0 loopM13
    | 1, _ => exact loop_this lf13_1 loopM13i
  obtain ⟨l, g, rfl, hm⟩ := hp
  have hl : lp13 [.l (l.map encQ), .i g, .b false, .i 0] = lpDis g (.b false) l 0 := by
    simp only [lp13, map_decQ]; rfl
  simp only [vt13, VT.ok, Nd.holds, X.outs, X.ds, X.d, Op2.ev, List.cons_append, List.nil_append, List.getD_cons_zero, List.getD_cons_succ, D.int_i, D.bool_b, show F 11301 = lp13 from rfl, show R 11301 = pr13 from rfl, hl, disD, map_decQ]
  refine ⟨fun _ => ⟨g, .b false, l, 0, rfl, by omega, hm⟩, ?_⟩
  rcases dis_scan (.b false) l g with ⟨h, k, e⟩ | ⟨h, k, e⟩ <;> rw [e]
  · simp only [takeD_zero, takeD_cons, List.getD_cons_zero, List.getD_cons_succ, D.int_i, if_true, h, show ((0 : Int) == 0) = true from rfl]
  · simp only [takeD_zero, takeD_cons, List.getD_cons_zero, List.getD_cons_succ, D.int_i, Bool.false_eq_true, if_false, h, show ((1 : Int) == 0) = false from rfl]

/-! ### the examples -/
theorem hML {l : List (FuncId × Sig)} (m8 : (8, S8) ∈ l → Meets Try.prog 8 S8 (R 8) (F 8)) (h : ∀ e ∈ l, e = (8, S8) ∨ e = (9, S9) ∨ e = (10, S10) ∨ e = (11, S11) ∨ e = (12, S12) ∨ e = (13, S13) ∨ e = (14, S14) ∨ e = (15, S15) ∨ e = (16, S16) ∨ e = (17, S17)) : ∀ f S, sgOf l f = some S → Meets Try.prog f S (R f) (F f) := sgOf_all (l := l) (by
  intro e he
  rcases h e he with rfl | rfl | rfl | rfl | rfl | rfl | rfl | rfl | rfl | rfl
  · exact m8 he
  · exact m9
  · exact m10
  · exact m11
  · exact m12
  · exact m13
  · exact m14
  · exact m15
  · exact m16
  · exact m17)

theorem m8 : Meets Try.prog 8 S8 (fun _ => True) one := by
  refine meets_of_vt (pre := R) (Φ := F) mixed (hML (l := sg8) (fun h => by simp [sg8] at h) (by simp [sg8])) Try.func8 b8 n8 (loops_n 0 k8 fun k hk => by omega) e8 fun ds hf _ => ?_
  obtain rfl := fits0 hf.flat
  let sz : List Pt := [(4, 2), (3, 5), (4, 1)]
  let want : List Bx := [(0, 0, 4, 2), (5, 0, 8, 5), (0, 6, 4, 7)]
  have a1 : F 9 [.l [[.i 4, .i 2], [.i 3, .i 5], [.i 4, .i 1]], .i 8, .i 1] = [.l (want.map encQ), .i 0] := by kernel_rfl
  have a2 : F 14 [.l [[.i 4, .i 2], [.i 3, .i 5], [.i 4, .i 1]], .i 1] = [.l (want.map encQ), .i 0] := by kernel_rfl
  have a3 : F 12 [.l (want.map encQ), .i 1] = [.b true] := by kernel_rfl
  have a4 : F 12 [.l (want.map encQ), .i 2] = [.b false] := by kernel_rfl
  have a5 : ∀ x, F 11 x = [.b true] := fun x => rfl
  have w : [[D.i 0, .i 0, .i 4, .i 2], [D.i 5, .i 0, .i 8, .i 5], [D.i 0, .i 6, .i 4, .i 7]] = want.map encQ := rfl
  have hm : want.length ≤ maxLen := by rw [maxLen_val]; decide
  have p9 : R 9 [.l [[.i 4, .i 2], [.i 3, .i 5], [.i 4, .i 1]], .i 8, .i 1] := ⟨sz, 8, 1, rfl, by rw [maxLen_val]; decide⟩
  have p14 : R 14 [.l [[.i 4, .i 2], [.i 3, .i 5], [.i 4, .i 1]], .i 1] := ⟨sz, 1, rfl, by rw [maxLen_val]; decide⟩
  have p11 : R 11 [.l (want.map encQ), .l (want.map encQ)] := ⟨want, rfl, hm⟩
  have p12 : ∀ k, R 12 [.l (want.map encQ), .i k] := fun k => ⟨want, k, rfl, hm⟩
  simp only [vt8, VT.ok, Nd.holds, X.outs, X.ds, X.d, Op1.ev, Op2.ev, takeD_zero, takeD_cons, List.cons_append, List.nil_append, List.getD_cons_zero, List.getD_cons_succ, D.int_i, D.bool_b, D.lst_l, if_true, implies_true, and_true, a1, a2, w, a3, a4, a5, beq_self_eq_true, Bool.not_false, one, p9, p14, p11, p12]

/-! ### the laws -/
theorem hMl {l : List (FuncId × Sig)} (h : ∀ e ∈ l, e = (8, S8) ∨ e = (9, S9) ∨ e = (10, S10) ∨ e = (11, S11) ∨ e = (12, S12) ∨ e = (13, S13) ∨ e = (14, S14) ∨ e = (15, S15) ∨ e = (16, S16) ∨ e = (17, S17)) : ∀ f S, sgOf l f = some S → Meets Try.prog f S (R f) (F f) := hML (fun _ => m8) h

theorem law3 : Meets Try.prog 3 S3 (fun _ => True) (fun _ => [.b true]) := by
  refine meets_of_vt (pre := R) (Φ := F) mixed (hMl (l := sg3) (by simp [sg3])) Try.func3 b3 n3 (loops_n 0 k3 fun k hk => by omega) e3 fun ds hf _ => ?_
  obtain ⟨x, y, z, rfl, hx, hy, hz⟩ := fits3 hf.flat
  obtain ⟨l, rfl, hm, _⟩ := slP hx
  obtain ⟨w, rfl, _⟩ := wf_i64 hy
  obtain ⟨g, rfl, _⟩ := wf_i64 hz
  have hp : chkPre [.l (l.map encP), .i w, .i g] := ⟨l, w, g, rfl, hm⟩
  have hs : ∀ q : List Bx, q.length ≤ maxLen → samePre [.l (q.map encQ), .l (q.map encQ)] := fun q hq => ⟨q, rfl, hq⟩
  have hlen : (if cerr l w g = 0 then shel w g l else []).length ≤ maxLen := by
    split
    · rw [shel_len]; exact hm
    · rw [maxLen_val]; decide
  have p8 : R 8 [] := trivial
  simp only [vt3, VT.ok, Nd.holds, X.outs, X.ds, X.d, Op1.ev, Op2.ev, takeD_zero, takeD_cons, List.cons_append, List.nil_append, List.getD_cons_zero, List.getD_cons_succ, D.int_i, D.bool_b, D.lst_l, List.length_map, if_true, implies_true, and_true, show F 8 = one from rfl, show F 9 = shelvesD from rfl, show F 10 = shelvesD from rfl, show F 11 = one from rfl, show R 9 = chkPre from rfl, show R 10 = chkPre from rfl, show R 11 = samePre from rfl, shelvesD, one, map_decP, hp, hs _ hlen, p8, beq_self_eq_true]
  split <;> trivial

theorem law4 : Meets Try.prog 4 S4 (fun _ => True) (fun _ => [.b true]) := by
  refine meets_of_vt (pre := R) (Φ := F) mixed (hMl (l := sg4) (by simp [sg4])) Try.func4 b4 n4 (loops_n 0 k4 fun k hk => by omega) e4 fun ds hf _ => ?_
  obtain ⟨x, y, rfl, hx, hy⟩ := fits2 hf.flat
  obtain ⟨l, rfl, hm, _⟩ := slQ hx
  obtain ⟨g, rfl, _⟩ := wf_i64 hy
  have hp : disPre [.l (l.map encQ), .i g] := ⟨l, g, rfl, hm⟩
  have p8 : R 8 [] := trivial
  simp only [vt4, VT.ok, Nd.holds, X.outs, X.ds, X.d, Op1.ev, Op2.ev, takeD_zero, takeD_cons, List.cons_append, List.nil_append, List.getD_cons_zero, List.getD_cons_succ, D.int_i, D.bool_b, D.lst_l, List.length_map, if_true, implies_true, and_true, show F 8 = one from rfl, show F 12 = disD from rfl, show F 13 = disD from rfl, show R 12 = disPre from rfl, show R 13 = disPre from rfl, disD, one, map_decQ, hp, p8, beq_self_eq_true]
  split <;> trivial

theorem bestF_len (sz : List Pt) (g : Int) : ∀ (ps : List Pt) (b : List Bx) (w : Int) (i : Nat), b.length ≤ sz.length → (bestF sz g b w i ps).1.length ≤ sz.length
  | [], b, w, i, h => h
  | p :: ps, b, w, i, h => by
    unfold bestF
    refine bestF_len sz g ps _ _ _ ?_
    split
    · rw [shel_len]; omega
    · exact h
theorem best_len (l : List Pt) (g : Int) : (best l g).length ≤ l.length := bestF_len l g l [] (-g) 0 (by simp)

theorem law5 : Meets Try.prog 5 S5 (fun _ => True) (fun _ => [.b true]) := by
  refine meets_of_vt (pre := R) (Φ := F) mixed (hMl (l := sg5) (by simp [sg5])) Try.func5 b5 n5 (loops_n 0 k5 fun k hk => by omega) e5 fun ds hf _ => ?_
  obtain ⟨x, y, rfl, hx, hy⟩ := fits2 hf.flat
  obtain ⟨l, rfl, hm, _⟩ := slP hx
  obtain ⟨g, rfl, _⟩ := wf_i64 hy
  have hp : bestPre [.l (l.map encP), .i g] := ⟨l, g, rfl, hm⟩
  have hs : ∀ q : List Bx, q.length ≤ maxLen → samePre [.l (q.map encQ), .l (q.map encQ)] := fun q hq => ⟨q, rfl, hq⟩
  have hlen : (if cerr l 0 g = 0 then best l g else []).length ≤ maxLen := by
    split
    · exact Nat.le_trans (best_len l g) hm
    · rw [maxLen_val]; decide
  have p8 : R 8 [] := trivial
  simp only [vt5, VT.ok, Nd.holds, X.outs, X.ds, X.d, Op1.ev, Op2.ev, takeD_zero, takeD_cons, List.cons_append, List.nil_append, List.getD_cons_zero, List.getD_cons_succ, D.int_i, D.bool_b, D.lst_l, List.length_map, if_true, implies_true, and_true, show F 8 = one from rfl, show F 14 = bestD from rfl, show F 15 = bestD from rfl, show F 11 = one from rfl, show R 14 = bestPre from rfl, show R 15 = bestPre from rfl, show R 11 = samePre from rfl, bestD, one, map_decP, hp, hs _ hlen, p8, beq_self_eq_true]
  split <;> trivial
end Go.Proofs.Ytnfndnaddnoiaaa.rv
