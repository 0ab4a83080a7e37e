/-
  Nested clusters: what is handed in is in order.; Nested clusters: the loop over the clusters, sizes.; Nested clusters: the reference's sizes.; Nested clusters: places of nodes and clusters: the program.; Graphs: members, depths, common clusters.; Nested clusters: compound.Place.; Nested clusters: the reference's places.
-/
import Derived.Test.YtindllmeeckfcaaZCompoundPlacesM
namespace Go.Proofs.Ytindllmeeckfcaa.rv
set_option maxRecDepth 10000
open Go.RV
theorem cfOv {f : FuncId} (hf : f = 59 ∨ f = 77) (l : List Bx) (q : Bx) :
    ixPre (dpBx 24 27 59 77) 4 [.l (l.map encQ), .c f [.pt [.int .i64, .int .i64, .int .i64, .int .i64]] [.p [.i q.1, .i q.2.1, .i q.2.2.1, .i q.2.2.2]]] ∧ cfFn dyBx 4 [.l (l.map encQ), .c f [.pt [.int .i64, .int .i64, .int .i64, .int .i64]] [.p [.i q.1, .i q.2.1, .i q.2.2.1, .i q.2.2.2]]] = [.b (anyN (ovJ l q) l.length)] := by
  have := cf_ov hf l q
  rw [R25, F25] at this
  exact this
theorem cfBad {f : FuncId} (hf : f = 24 ∨ f = 27) (l : List Bx) :
    ixPre (dpBx 24 27 59 77) 4 [.l (l.map encQ), .c f [] []] ∧ cfFn dyBx 4 [.l (l.map encQ), .c f [] []] = [.b (badL l)] := by
  have := cf_bad hf l
  rw [R25, F25] at this
  exact this
theorem takeQ (l : List Bx) (j : Nat) : (l.map encQ).take j = (l.take j).map encQ := (List.map_take ..).symm
theorem extRaw (a b c d : Int) : fn29 [.i a, .i b, .i c, .i d] = [.i (IntKind.i64.wrap (c - a)), .i (IntKind.i64.wrap (d - b))] := rfl
theorem badCode (q : Bx) (W H : Int) : (!bxB q.1 q.2.1 q.2.2.1 q.2.2.2 || !((IntKind.i64.wrap (q.2.2.1 - q.1) == W) && (IntKind.i64.wrap (q.2.2.2 - q.2.1) == H))) = (!bxQ q || (!((extQ q).1 == W) || !((extQ q).2 == H))) := by
  cases h : bxQ q
  · have h' : bxB q.1 q.2.1 q.2.2.1 q.2.2.2 = false := h
    rw [h']; rfl
  · have h' : bxB q.1 q.2.1 q.2.2.1 q.2.2.2 = true := h
    obtain ⟨e1, e2⟩ := ext_i64 (smQ_of h)
    rw [h', e1, e2, Bool.not_and]
theorem badCode2 (q : Bx) (W H : Int) : ((!bxB q.1 q.2.1 q.2.2.1 q.2.2.2 || !(IntKind.i64.wrap (q.2.2.1 - q.1) == W)) || !(IntKind.i64.wrap (q.2.2.2 - q.2.1) == H)) = (!bxQ q || (!((extQ q).1 == W) || !((extQ q).2 == H))) := by
  rw [← badCode, Bool.not_and, Bool.or_assoc]
theorem loopM48_0 : LoopMeets Try.prog F (R L48_0.key) L48_0 lb48_0 := by
  refine loop_meets (pre := R) mixed (sgAt_all (P := Try.prog) (pre := R) (Φ := F) (l := sg48) (fcm ⟨m26, fcm ⟨m28, fcm ⟨m17, fcm ⟨m29, fcm ⟨m25, (fun _ h => nomatch h)⟩⟩⟩⟩⟩)) (loops_n 0 lk48_0 fun k hk => by omega) L48_0 (fun ρ => ((ρ.getD 2 default).int - (ρ.getD 3 default).int).toNat) le48_0 fun ρ _ hq => ?_
  obtain ⟨v, B, g, j, rfl, hj, hN, h64⟩ : prA0 ρ := hq
  by_cases hlt : j < B.length
  · simp (disch := omega) only [rt48_0, VT.ok, Nd.holds, X.outs, X.ds, X.d, Op1.ev, Op2.ev, takeD_zero, takeD_cons, List.cons_append, List.nil_append, List.getD_cons_zero, List.getD_cons_succ, D.int_i, D.bool_b, D.lst_l, ite_b, ite_or, ite_and, Int.toNat_natCast, List.length_map, implies_true, true_and, F17, R17, F29, R29, ↓reduceIte, dle_t, dlt_t, w64', rowQz, encQ, fn17_eq, extRaw]
    rw [badCode]
    show if badB g.N B j = true then _ else _
    cases hb : badB g.N B j
    · simp only [Bool.false_eq_true, if_false]
      refine round_next ⟨⟨v, B, g, j + 1, rfl, by omega, hN, h64⟩, ?_, ?_⟩
      · show ((B.length : Int) - ((j + 1 : Nat) : Int)).toNat < ((B.length : Int) - (j : Int)).toNat
        omega
      · show lpA0 [v, .l (B.map encQ), .i (B.length : Int), .i ((j + 1 : Nat) : Int), .s g.nm, .b g.dr, .l g.N, .l g.E, .l g.C] = lpA0 [v, .l (B.map encQ), .i (B.length : Int), .i (j : Int), .s g.nm, .b g.dr, .l g.N, .l g.E, .l g.C]
        simp only [lpA0, map_decQ, List.length_map, Int.toNat_natCast]
        exact scan_next hlt hb
    · simp only [if_true]
      refine round_exit (by omega) ?_
      show lpA0 [v, .l (B.map encQ), .i (B.length : Int), .i (j : Int), .s g.nm, .b g.dr, .l g.N, .l g.E, .l g.C] = _
      simp only [lpA0, map_decQ, List.length_map, Int.toNat_natCast]
      exact scan_hit hlt hb
  · have hj' : j = B.length := by omega
    subst hj'
    simp (disch := omega) only [rt48_0, VT.ok, X.ds, X.d, Op2.ev, List.getD_cons_zero, List.getD_cons_succ, D.int_i, D.bool_b, Bool.false_eq_true, ↓reduceIte, dlt_f]
    refine round_exit (by omega) ?_
    show lpA0 [v, .l (B.map encQ), .i (B.length : Int), .i (B.length : Int), .s g.nm, .b g.dr, .l g.N, .l g.E, .l g.C] = _
    simp only [lpA0, map_decQ, List.length_map, Int.toNat_natCast]
    exact scan_end
theorem loopM48_1 : LoopMeets Try.prog F (R L48_1.key) L48_1 lb48_1 := by
  refine loop_meets (pre := R) mixed (sgAt_all (P := Try.prog) (pre := R) (Φ := F) (l := sg48) (fcm ⟨m26, fcm ⟨m28, fcm ⟨m17, fcm ⟨m29, fcm ⟨m25, (fun _ h => nomatch h)⟩⟩⟩⟩⟩)) (loops_n 0 lk48_1 fun k hk => by omega) L48_1 (fun ρ => ((ρ.getD 3 default).int - (ρ.getD 4 default).int).toNat) le48_1 fun ρ _ hq => ?_
  obtain ⟨v, B, j, rfl, hj, hm⟩ : prA1 ρ := hq
  rw [maxLen_val] at hm
  by_cases hlt : j < B.length
  · have hcf := cfOv (f := 77) (.inr rfl) (B.take j) (B.getD j z4)
    rw [ov_take (by omega)] at hcf
    simp (disch := omega) only [rt48_1, VT.ok, Nd.holds, X.outs, X.ds, X.d, Op1.ev, Op2.ev, takeD_zero, takeD_cons, List.cons_append, List.nil_append, List.getD_cons_zero, List.getD_cons_succ, D.int_i, D.bool_b, D.lst_l, Int.toNat_natCast, List.length_map, implies_true, true_and, F25, R25, ↓reduceIte, dle_t, dlt_t, w64', rowQz, encQ, Int.toNat_zero, List.drop_zero, takeQ, hcf.2]
    refine ⟨fun _ => hcf.1, ?_⟩
    show if ovN B j = true then _ else _
    cases hb : ovN B j
    · simp only [Bool.false_eq_true, if_false]
      refine round_next ⟨⟨v, B, j + 1, rfl, by omega, hm⟩, ?_, ?_⟩
      · show ((B.length : Int) - ((j + 1 : Nat) : Int)).toNat < ((B.length : Int) - (j : Int)).toNat
        omega
      · show lpA1 [.l (B.map encQ), v, .l (B.map encQ), .i (B.length : Int), .i ((j + 1 : Nat) : Int)] = lpA1 [.l (B.map encQ), v, .l (B.map encQ), .i (B.length : Int), .i (j : Int)]
        simp only [lpA1, map_decQ, List.length_map, Int.toNat_natCast]
        exact scan_next hlt hb
    · simp only [if_true]
      refine round_exit (by omega) ?_
      show lpA1 [.l (B.map encQ), v, .l (B.map encQ), .i (B.length : Int), .i (j : Int)] = _
      simp only [lpA1, map_decQ, List.length_map, Int.toNat_natCast]
      exact scan_hit hlt hb
  · have hj' : j = B.length := by omega
    subst hj'
    simp (disch := omega) only [rt48_1, VT.ok, X.ds, X.d, Op2.ev, List.getD_cons_zero, List.getD_cons_succ, D.int_i, D.bool_b, Bool.false_eq_true, ↓reduceIte, dlt_f]
    refine round_exit (by omega) ?_
    show lpA1 [.l (B.map encQ), v, .l (B.map encQ), .i (B.length : Int), .i (B.length : Int)] = _
    simp only [lpA1, map_decQ, List.length_map, Int.toNat_natCast]
    exact scan_end
theorem loopM32_0 : LoopMeets Try.prog F (R L32_0.key) L32_0 lb32_0 := by
  refine loop_meets (pre := R) mixed (sgAt_all (P := Try.prog) (pre := R) (Φ := F) (l := sg32) (fcm ⟨m42, fcm ⟨m43, fcm ⟨m36, fcm ⟨m63, (fun _ h => nomatch h)⟩⟩⟩⟩)) (loops_n 0 lk32_0 fun k hk => by omega) L32_0 (fun ρ => (((ρ.getD 0 default).lst.length : Int) - (ρ.getD 2 default).int).toNat) le32_0 fun ρ _ hq => ?_
  obtain ⟨v, B, g, j, rfl, hj, hN, h64⟩ : prR0 ρ := hq
  by_cases hlt : j < B.length
  · simp (disch := omega) only [rt32_0, VT.ok, Nd.holds, X.outs, X.ds, X.d, Op1.ev, Op2.ev, takeD_zero, takeD_cons, List.cons_append, List.nil_append, List.getD_cons_zero, List.getD_cons_succ, D.int_i, D.bool_b, D.lst_l, ite_b, ite_or, Int.toNat_natCast, List.length_map, implies_true, true_and, F36, R36, ↓reduceIte, dle_t, dlt_t, w64', rowQz, encQ, fn36_eq]
    rw [badCode2]
    show if badB g.N B j = true then _ else _
    cases hb : badB g.N B j
    · simp only [Bool.false_eq_true, if_false]
      refine round_next ⟨⟨v, B, g, j + 1, rfl, by omega, hN, h64⟩, ?_, ?_⟩
      · show (((B.map encQ).length : Int) - ((j + 1 : Nat) : Int)).toNat < (((B.map encQ).length : Int) - (j : Int)).toNat
        rw [List.length_map]; omega
      · show lpR0 [.l (B.map encQ), v, .i ((j + 1 : Nat) : Int), .s g.nm, .b g.dr, .l g.N, .l g.E, .l g.C] = lpR0 [.l (B.map encQ), v, .i (j : Int), .s g.nm, .b g.dr, .l g.N, .l g.E, .l g.C]
        simp only [lpR0, map_decQ, List.length_map, Int.toNat_natCast]
        exact scan_next hlt hb
    · simp only [if_true]
      refine round_exit (by omega) ?_
      show lpR0 [.l (B.map encQ), v, .i (j : Int), .s g.nm, .b g.dr, .l g.N, .l g.E, .l g.C] = _
      simp only [lpR0, map_decQ, List.length_map, Int.toNat_natCast]
      exact scan_hit hlt hb
  · have hj' : j = B.length := by omega
    subst hj'
    simp (disch := omega) only [rt32_0, VT.ok, X.ds, X.d, Op1.ev, Op2.ev, List.getD_cons_zero, List.getD_cons_succ, D.int_i, D.bool_b, D.lst_l, List.length_map, Bool.false_eq_true, ↓reduceIte, dlt_f]
    refine round_exit (by omega) ?_
    show lpR0 [.l (B.map encQ), v, .i (B.length : Int), .s g.nm, .b g.dr, .l g.N, .l g.E, .l g.C] = _
    simp only [lpR0, map_decQ, List.length_map, Int.toNat_natCast]
    exact scan_end
theorem loopM32_2 : LoopMeets Try.prog F (R L32_2.key) L32_2 lb32_2 := by
  refine loop_meets (pre := R) mixed (sgAt_all (P := Try.prog) (pre := R) (Φ := F) (l := sg32) (fcm ⟨m42, fcm ⟨m43, fcm ⟨m36, fcm ⟨m63, (fun _ h => nomatch h)⟩⟩⟩⟩)) (loops_n 0 lk32_2 fun k hk => by omega) L32_2 (fun ρ => ((ρ.getD 2 default).int - (ρ.getD 3 default).int).toNat) le32_2 fun ρ _ hq => ?_
  obtain ⟨v, B, k, j, rfl, hj, hk, hm⟩ : prR2 ρ := hq
  rw [maxLen_val] at hm
  by_cases hlt : j < k
  · simp (disch := omega) only [rt32_2, VT.ok, Nd.holds, X.outs, X.ds, X.d, Op1.ev, Op2.ev, takeD_zero, takeD_cons, List.cons_append, List.nil_append, List.getD_cons_zero, List.getD_cons_succ, D.int_i, D.bool_b, D.lst_l, Int.toNat_natCast, List.length_map, implies_true, true_and, F63, R63, ↓reduceIte, dle_t, dlt_t, w64', rowQz, encQ, fn63_eq]
    rw [show ovQ ((B.getD k z4).1, (B.getD k z4).2.1, (B.getD k z4).2.2.1, (B.getD k z4).2.2.2) ((B.getD j z4).1, (B.getD j z4).2.1, (B.getD j z4).2.2.1, (B.getD j z4).2.2.2) = ovJ B (B.getD k z4) j from ovQ_comm _ _]
    show if ovJ B (B.getD k z4) j = true then _ else _
    cases hb : ovJ B (B.getD k z4) j
    · simp only [Bool.false_eq_true, if_false]
      refine round_next ⟨⟨v, B, k, j + 1, rfl, by omega, hk, hm⟩, ?_, ?_⟩
      · show ((k : Int) - ((j + 1 : Nat) : Int)).toNat < ((k : Int) - (j : Int)).toNat
        omega
      · show lpR2 [.l (B.map encQ), v, .i (k : Int), .i ((j + 1 : Nat) : Int)] = lpR2 [.l (B.map encQ), v, .i (k : Int), .i (j : Int)]
        simp only [lpR2, map_decQ, Int.toNat_natCast]
        exact scan_next hlt hb
    · simp only [if_true]
      refine round_exit (by omega) ?_
      show lpR2 [.l (B.map encQ), v, .i (k : Int), .i (j : Int)] = _
      simp only [lpR2, map_decQ, Int.toNat_natCast]
      exact scan_hit hlt hb
  · have hj' : j = k := by omega
    subst hj'
    simp (disch := omega) only [rt32_2, VT.ok, X.ds, X.d, Op2.ev, List.getD_cons_zero, List.getD_cons_succ, D.int_i, D.bool_b, Bool.false_eq_true, ↓reduceIte, dlt_f]
    refine round_exit (by omega) ?_
    show lpR2 [.l (B.map encQ), v, .i (j : Int), .i (j : Int)] = _
    simp only [lpR2, map_decQ, Int.toNat_natCast]
    exact scan_end
theorem loopM32_1 : LoopMeets Try.prog F (R L32_1.key) L32_1 lb32_1 := by
  refine loop_meets (pre := R) mixed (sgAt_all (P := Try.prog) (pre := R) (Φ := F) (l := sg32) (fcm ⟨m42, fcm ⟨m43, fcm ⟨m36, fcm ⟨m63, (fun _ h => nomatch h)⟩⟩⟩⟩)) (loops_n 1 lk32_1 fun k hk => match k, hk with | 0, _ => by rw [li32_1_0]; exact loop_this lf32_2 loopM32_2) L32_1 (fun ρ => (((ρ.getD 0 default).lst.length : Int) - (ρ.getD 2 default).int).toNat) le32_1 fun ρ _ hq => ?_
  obtain ⟨v, B, j, rfl, hj, hm⟩ : prR1 ρ := hq
  have hm' := hm
  rw [maxLen_val] at hm
  by_cases hlt : j < B.length
  · have hl : lpR2 [.l (B.map encQ), v, .i (j : Int), .i 0] = scanN (ovJ B (B.getD j z4)) (fun j => [.i 0, .i 14, .i (j : Int)]) (fun j => [.i 1, v, .i (j : Int)]) j 0 := by
      simp only [lpR2, map_decQ, Int.toNat_natCast, Int.toNat_zero, Nat.sub_zero]
    simp (disch := omega) only [rt32_1, VT.ok, Nd.holds, X.outs, X.ds, X.d, Op1.ev, Op2.ev, List.cons_append, List.nil_append, List.getD_cons_zero, List.getD_cons_succ, D.int_i, D.bool_b, D.lst_l, List.length_map, F13201, R13201, ↓reduceIte, dlt_t, w64', hl]
    refine ⟨fun _ => ⟨v, B, j, 0, rfl, by omega, hlt, hm'⟩, ?_⟩
    rcases scan_any (p := ovJ B (B.getD j z4)) (hit := fun j => [D.i 0, .i 14, .i (j : Int)]) (miss := fun j => [D.i 1, v, .i (j : Int)]) j with ⟨h1, k, _, _, _, h2⟩ | ⟨h1, h2⟩
    · rw [h2]
      simp only [takeD_zero, takeD_cons, List.getD_cons_zero, List.getD_cons_succ, D.int_i, if_true, show ((0 : Int) == 0) = true from rfl]
      refine round_exit (by omega) ?_
      show lpR1 [.l (B.map encQ), v, .i (j : Int)] = _
      simp only [lpR1, map_decQ, Int.toNat_natCast, List.length_map]
      exact scan_hit hlt h1
    · rw [h2]
      simp only [takeD_zero, takeD_cons, List.getD_cons_zero, List.getD_cons_succ, D.int_i, Bool.false_eq_true, if_false, show ((1 : Int) == 0) = false from rfl]
      refine round_next ⟨⟨v, B, j + 1, rfl, by omega, hm'⟩, ?_, ?_⟩
      · show (((B.map encQ).length : Int) - ((j + 1 : Nat) : Int)).toNat < (((B.map encQ).length : Int) - (j : Int)).toNat
        rw [List.length_map]; omega
      · show lpR1 [.l (B.map encQ), v, .i ((j + 1 : Nat) : Int)] = lpR1 [.l (B.map encQ), v, .i (j : Int)]
        simp only [lpR1, map_decQ, Int.toNat_natCast, List.length_map]
        exact scan_next hlt h1
  · have hj : j = B.length := by omega
    subst hj
    simp (disch := omega) only [rt32_1, VT.ok, X.ds, X.d, Op1.ev, Op2.ev, List.getD_cons_zero, List.getD_cons_succ, D.int_i, D.bool_b, D.lst_l, List.length_map, Bool.false_eq_true, ↓reduceIte, dlt_f]
    refine round_exit (by omega) ?_
    show lpR1 [.l (B.map encQ), v, .i (B.length : Int)] = _
    simp only [lpR1, map_decQ, Int.toNat_natCast, List.length_map]
    exact scan_end
theorem fitsGO {e1 e2 e3 e4 : TypeId} {c1 c2 c3 : List CT} {rest : List CT} {ds : List D} (h : FitsF (.str :: .bool :: .sl e1 c1 :: .sl e2 c2 :: .sl e3 c3 :: .int .i64 :: .int .i64 :: .int .i64 :: .int .i64 :: .int .i64 :: .sl e4 [.int .i64, .int .i64, .int .i64, .int .i64] :: rest) ds) :
    ∃ (g : Gd) (o : Od) (B : List Bx) (ds' : List D), ds = .s g.nm :: .b g.dr :: .l g.N :: .l g.E :: .l g.C :: .i o.md :: .i o.ns :: .i o.rs :: .i o.m :: .i o.rd :: .l (B.map encQ) :: ds' ∧ FitsF rest ds' ∧ B.length ≤ maxLen ∧ (∀ x ∈ g.N, FitsF c1 x) ∧ (∀ x ∈ g.C, FitsF c3 x) ∧ (g.N.length ≤ maxLen ∧ g.C.length ≤ maxLen) := by
  obtain ⟨g, ds1, rfl, h1, _, ⟨hn0, hn⟩, _, hc0, hc⟩ := fitsG h
  match ds1, h1 with
  | a :: b :: c :: d :: e :: l :: ds', ⟨k0, k1, k2, k3, k4, k5, k6⟩ =>
    obtain ⟨a, rfl, _⟩ := wf_i64 k0
    obtain ⟨b, rfl, _⟩ := wf_i64 k1
    obtain ⟨c, rfl, _⟩ := wf_i64 k2
    obtain ⟨d, rfl, _⟩ := wf_i64 k3
    obtain ⟨e, rfl, _⟩ := wf_i64 k4
    obtain ⟨B, rfl, hm, _⟩ := slQ k5
    exact ⟨g, ⟨a, b, c, d, e⟩, B, ds', rfl, k6, hm, hn, hc, hn0, hc0⟩
theorem inD_eq (g : Gd) (o : Od) (B : List Bx) : inD [.s g.nm, .b g.dr, .l g.N, .l g.E, .l g.C, .i o.md, .i o.ns, .i o.rs, .i o.m, .i o.rd, .l (B.map encQ)] = [.i (inE g o B)] := by
  show [D.i (inE g o ((B.map encQ).map decQ))] = _
  rw [map_decQ]
theorem valid_len {g : Gd} (h : validE g = 0) : g.N.length ≤ 64 ∧ g.C.length ≤ 16 := by
  unfold validE at h
  split at h
  · cases h
  · rename_i h1
    omega
theorem inE_err {g : Gd} {o : Od} {B : List Bx} (h : ¬ validE g = 0) : inE g o B = validE g := by rw [inE, if_neg h]
theorem m48 : Meets Try.prog 48 S48 (R 48) (F 48) := by
  refine meets_of_vt (pre := R) (Φ := F) mixed (sgAt_all (P := Try.prog) (pre := R) (Φ := F) (l := sg48) (fcm ⟨m26, fcm ⟨m28, fcm ⟨m17, fcm ⟨m29, fcm ⟨m25, (fun _ h => nomatch h)⟩⟩⟩⟩⟩)) Try.func48 b48 n48 (loops_n 2 k48 fun k hk => match k, hk with | 0, _ => loop_this lf48_0 loopM48_0 | 1, _ => loop_this lf48_1 loopM48_1) e48 fun ds hf _ => ?_
  obtain ⟨g, o, B, ds', rfl, h0, hm, _⟩ := fitsGO hf.flat
  obtain rfl := fits0 h0
  have hv : validD [.s g.nm, .b g.dr, .l g.N, .l g.E, .l g.C] = [.i (validE g)] := rfl
  have ho := fn28_eq o.md o.ns o.rs o.m o.rd
  simp only [vt48, VT.ok, Nd.holds, X.outs, X.ds, X.d, Op1.ev, Op2.ev, takeD_zero, takeD_cons, List.cons_append, List.nil_append, List.getD_cons_zero, List.getD_cons_succ, D.int_i, D.bool_b, D.lst_l, List.length_map, implies_true, true_and, F26, R26, F28, R28, F14800, R14800, F14801, R14801, F48, hv, ho, inD_eq]
  by_cases h1 : validE g = 0
  · obtain ⟨v1, v2⟩ := valid_len h1
    have hb : (!(validE g == 0)) = false := by simp [h1]
    simp only [hb, Bool.false_eq_true, if_false]
    by_cases h2 : o.ok = true
    · simp only [show (Od.ok ⟨o.md, o.ns, o.rs, o.m, o.rd⟩) = true from h2, Bool.not_true, Bool.false_eq_true, if_false]
      by_cases h3 : B.length = g.N.length
      · have h3' : (!((B.length : Int) == (g.N.length : Int))) = false := by simp [h3]
        have e1 : lpA0 [.i 0, .l (B.map encQ), .i (B.length : Int), .i 0, .s g.nm, .b g.dr, .l g.N, .l g.E, .l g.C] = scanN (badB g.N B) (fun j => [.i 0, .i 1, .i (j : Int)]) (fun j => [.i 1, .i 0, .i (j : Int)]) B.length 0 := by
          simp only [lpA0, map_decQ, List.length_map, Int.toNat_zero, Nat.sub_zero]
        have e2 : lpA1 [.l (B.map encQ), .i 0, .l (B.map encQ), .i (B.length : Int), .i 0] = scanN (ovN B) (fun j => [.i 0, .i 14, .i (j : Int)]) (fun j => [.i 1, .i 0, .i (j : Int)]) B.length 0 := by
          simp only [lpA1, map_decQ, List.length_map, Int.toNat_zero, Nat.sub_zero]
        have hp0 : prA0 [.i 0, .l (B.map encQ), .i (B.length : Int), .i 0, .s g.nm, .b g.dr, .l g.N, .l g.E, .l g.C] := ⟨.i 0, B, g, 0, rfl, by omega, by omega, by omega⟩
        have hp1 : prA1 [.l (B.map encQ), .i 0, .l (B.map encQ), .i (B.length : Int), .i 0] := ⟨.i 0, B, 0, rfl, by omega, hm⟩
        have hin : inE g o B = if anyN (badB g.N B) B.length = true then 1 else if anyN (ovN B) B.length = true then 14 else 0 := by
          rw [inE, if_pos h1, if_pos h2, if_pos h3]
        simp only [h3', Bool.false_eq_true, if_false, e1]
        refine ⟨fun _ => hp0, ?_⟩
        rcases scan_any (p := badB g.N B) (hit := fun j => [D.i 0, .i 1, .i (j : Int)]) (miss := fun j => [D.i 1, .i 0, .i (j : Int)]) B.length with ⟨k1, j, _, _, _, k2⟩ | ⟨k1, k2⟩
        · rw [k2, hin, if_pos k1]
          simp only [takeD_zero, takeD_cons, List.cons_append, List.nil_append, List.getD_cons_zero, List.getD_cons_succ, D.int_i, if_true, show ((0 : Int) == 0) = true from rfl]
        · rw [if_neg (by rw [k1]; decide)] at hin
          rw [k2, hin]
          simp only [takeD_zero, takeD_cons, List.cons_append, List.nil_append, List.getD_cons_zero, List.getD_cons_succ, D.int_i, Bool.false_eq_true, if_false, show ((1 : Int) == 0) = false from rfl, e2]
          refine ⟨fun _ => hp1, ?_⟩
          rcases scan_any (p := ovN B) (hit := fun j => [D.i 0, .i 14, .i (j : Int)]) (miss := fun j => [D.i 1, .i 0, .i (j : Int)]) B.length with ⟨k1, j, _, _, _, k2⟩ | ⟨k1, k2⟩
          · rw [if_pos k1]
            rw [k2]
            simp only [takeD_zero, takeD_cons, List.getD_cons_zero, List.getD_cons_succ, D.int_i, if_true, show ((0 : Int) == 0) = true from rfl]
          · rw [if_neg (c := anyN (ovN B) B.length = true) (by rw [k1]; decide)]
            rw [k2]
            simp only [takeD_zero, takeD_cons, List.getD_cons_zero, List.getD_cons_succ, D.int_i, Bool.false_eq_true, if_false, show ((1 : Int) == 0) = false from rfl]
      · have h3' : (!((B.length : Int) == (g.N.length : Int))) = true := by simp; omega
        simp only [h3', if_true]
        rw [inE, if_pos h1, if_pos h2, if_neg h3]
    · have h2' : Od.ok ⟨o.md, o.ns, o.rs, o.m, o.rd⟩ = false := Bool.eq_false_iff.2 h2
      simp only [h2', Bool.not_false, if_true]
      rw [inE, if_pos h1, if_neg h2]
  · have hb : (!(validE g == 0)) = true := by simp [h1]
    rw [if_pos hb, inE_err h1]
theorem m32 : Meets Try.prog 32 S32 (R 32) (F 32) := by
  refine meets_of_vt (pre := R) (Φ := F) mixed (sgAt_all (P := Try.prog) (pre := R) (Φ := F) (l := sg32) (fcm ⟨m42, fcm ⟨m43, fcm ⟨m36, fcm ⟨m63, (fun _ h => nomatch h)⟩⟩⟩⟩)) Try.func32 b32 n32 (loops_n 3 k32 fun k hk => match k, hk with | 0, _ => loop_this lf32_0 loopM32_0 | 1, _ => loop_this lf32_1 loopM32_1 | 2, _ => loop_this lf32_2 loopM32_2) e32 fun ds hf _ => ?_
  obtain ⟨g, o, B, ds', rfl, h0, hm, _⟩ := fitsGO hf.flat
  obtain rfl := fits0 h0
  have hv : validD [.s g.nm, .b g.dr, .l g.N, .l g.E, .l g.C] = [.i (validE g)] := rfl
  have ho := fn43_eq o.md o.ns o.rs o.m o.rd
  simp only [vt32, VT.ok, Nd.holds, X.outs, X.ds, X.d, Op1.ev, Op2.ev, takeD_zero, takeD_cons, List.cons_append, List.nil_append, List.getD_cons_zero, List.getD_cons_succ, D.int_i, D.bool_b, D.lst_l, List.length_map, implies_true, true_and, F42, R42, F43, R43, F13200, R13200, F13202, R13202, F32, hv, ho, inD_eq]
  by_cases h1 : validE g = 0
  · obtain ⟨v1, v2⟩ := valid_len h1
    have hb : (!(validE g == 0)) = false := by simp [h1]
    simp only [hb, Bool.false_eq_true, if_false]
    by_cases h2 : o.ok = true
    · simp only [show (Od.ok ⟨o.md, o.ns, o.rs, o.m, o.rd⟩) = true from h2, Bool.not_true, Bool.false_eq_true, if_false]
      by_cases h3 : B.length = g.N.length
      · have h3' : (!((B.length : Int) == (g.N.length : Int))) = false := by simp [h3]
        have e1 : lpR0 [.l (B.map encQ), .i 0, .i 0, .s g.nm, .b g.dr, .l g.N, .l g.E, .l g.C] = scanN (badB g.N B) (fun j => [.i 0, .i 1, .i (j : Int)]) (fun j => [.i 1, .i 0, .i (j : Int)]) B.length 0 := by
          simp only [lpR0, map_decQ, List.length_map, Int.toNat_zero, Nat.sub_zero]
        have e2 : lpR1 [.l (B.map encQ), .i 0, .i 0] = scanN (ovN B) (fun j => [.i 0, .i 14, .i (j : Int)]) (fun j => [.i 1, .i 0, .i (j : Int)]) B.length 0 := by
          simp only [lpR1, map_decQ, List.length_map, Int.toNat_zero, Nat.sub_zero]
        have hp0 : prR0 [.l (B.map encQ), .i 0, .i 0, .s g.nm, .b g.dr, .l g.N, .l g.E, .l g.C] := ⟨.i 0, B, g, 0, rfl, by omega, by omega, by omega⟩
        have hp1 : prR1 [.l (B.map encQ), .i 0, .i 0] := ⟨.i 0, B, 0, rfl, by omega, hm⟩
        have hin : inE g o B = if anyN (badB g.N B) B.length = true then 1 else if anyN (ovN B) B.length = true then 14 else 0 := by
          rw [inE, if_pos h1, if_pos h2, if_pos h3]
        simp only [h3', Bool.false_eq_true, if_false, e1]
        refine ⟨fun _ => hp0, ?_⟩
        rcases scan_any (p := badB g.N B) (hit := fun j => [D.i 0, .i 1, .i (j : Int)]) (miss := fun j => [D.i 1, .i 0, .i (j : Int)]) B.length with ⟨k1, j, _, _, _, k2⟩ | ⟨k1, k2⟩
        · rw [k2, hin, if_pos k1]
          simp only [takeD_zero, takeD_cons, List.cons_append, List.nil_append, List.getD_cons_zero, List.getD_cons_succ, D.int_i, if_true, show ((0 : Int) == 0) = true from rfl]
        · rw [if_neg (by rw [k1]; decide)] at hin
          rw [k2, hin]
          simp only [takeD_zero, takeD_cons, List.cons_append, List.nil_append, List.getD_cons_zero, List.getD_cons_succ, D.int_i, Bool.false_eq_true, if_false, show ((1 : Int) == 0) = false from rfl, e2]
          refine ⟨fun _ => hp1, ?_⟩
          rcases scan_any (p := ovN B) (hit := fun j => [D.i 0, .i 14, .i (j : Int)]) (miss := fun j => [D.i 1, .i 0, .i (j : Int)]) B.length with ⟨k1, j, _, _, _, k2⟩ | ⟨k1, k2⟩
          · rw [if_pos k1]
            rw [k2]
            simp only [takeD_zero, takeD_cons, List.getD_cons_zero, List.getD_cons_succ, D.int_i, if_true, show ((0 : Int) == 0) = true from rfl]
          · rw [if_neg (c := anyN (ovN B) B.length = true) (by rw [k1]; decide)]
            rw [k2]
            simp only [takeD_zero, takeD_cons, List.getD_cons_zero, List.getD_cons_succ, D.int_i, Bool.false_eq_true, if_false, show ((1 : Int) == 0) = false from rfl]
      · have h3' : (!((B.length : Int) == (g.N.length : Int))) = true := by simp; omega
        simp only [h3', if_true]
        rw [inE, if_pos h1, if_pos h2, if_neg h3]
    · have h2' : Od.ok ⟨o.md, o.ns, o.rs, o.m, o.rd⟩ = false := Bool.eq_false_iff.2 h2
      simp only [h2', Bool.not_false, if_true]
      rw [inE, if_pos h1, if_neg h2]
  · have hb : (!(validE g == 0)) = true := by simp [h1]
    rw [if_pos hb, inE_err h1]
end Go.Proofs.Ytindllmeeckfcaa.rv
namespace Go.Proofs.Ytindllmeeckfcaa.rv
set_option maxRecDepth 10000
open Go.RV
theorem round_step {Φ : FuncId → List D → List D} {pre : List D → Prop} {μ : List D → Nat} {L : LoopSig} {ρ vals : List D} (ρ' : List D) (hs : setVars ρ L.wv vals = ρ') (h1 : pre ρ') (h2 : μ ρ' < μ ρ) (h3 : Φ L.key ρ' = Φ L.key ρ) : RoundOk Φ pre μ L ρ (.i (-1) :: vals) :=
  round_next (by rw [hs]; exact ⟨h1, h2, h3⟩)
theorem updTs {T : List (List Tp)} {i : Nat} {t : List Tp} (h : i < T.length) : (T.map encTs).set i (splice ((T.map encTs).getD i []) 0 [.l (t.map encT)]) = (T.set i t).map encTs := by
  have e : (T.map encTs).getD i [] = encTs (T.getD i []) := row_get (enc := encTs) [] h
  rw [e, List.map_set]; rfl
theorem updP {S : List Pt} {i : Nat} {a b : Int} (h : i < S.length) : (S.map encP).set i (splice ((S.map encP).getD i []) 0 [.i a, .i b]) = (S.set i (a, b)).map encP := by
  rw [rowPz h, List.map_set]; rfl
theorem updZ {S : List Pt} {i : Nat} {a b : Int} (h : i < S.length) : (S.map encZ).set i (splice ((S.map encZ).getD i []) 0 [.i 0, .i 0, .i a, .i b]) = (S.set i (a, b)).map encZ := by
  have e : (S.map encZ).getD i [] = encZ (S.getD i pz) := row_get (enc := encZ) pz h
  rw [e, List.map_set]; rfl
theorem setP_at {S : List Pt} {i : Nat} {z : Pt} (h : i < S.length) : ((S.set i z).map encP).getD i [] = encP z := by
  rw [row_get (enc := encP) pz (by rw [List.length_set]; exact h)]
  simp [List.getD, h]
theorem setZ_at {S : List Pt} {i : Nat} {z : Pt} (h : i < S.length) : ((S.set i z).map encZ).getD i [] = encZ z := by
  rw [row_get (enc := encZ) pz (by rw [List.length_set]; exact h)]
  simp [List.getD, h]
theorem z_wrap {q : Bx} (hq : bxQ q = true) {m : Int} (hm : 0 ≤ m ∧ m ≤ 1048576) : IntKind.i64.wrap ((extQ q).1 + 2 * m) = (extQ q).1 + 2 * m ∧ IntKind.i64.wrap ((extQ q).2 + 2 * m) = (extQ q).2 + 2 * m := by
  have h := bxB_iff.1 hq
  exact ⟨w64 (by simp only [extQ]; omega), w64 (by simp only [extQ]; omega)⟩
theorem pack_eq (p : Pn) (c : Int) : packD [.p p.l, .i c] = packR p c := by
  show packR (pnOf p.d) c = _
  rw [pnOf_d]
theorem arL_next (a : Ar) (v e : D) (k : Nat) (S : List Pt) (T : List (List Tp)) (h : a.e S k = 0) (hz : zOk (a.z S k) = true) : arL a v e (k + 1) S T = arL a v e k (S.set k (a.z S k)) (T.set k (a.t S k)) := by
  rw [arL, if_pos h, if_pos hz]
theorem Pn.fit_set {p : Pn} (h : p.fit) (S : List Pt) (T : List (List Tp)) (hS : S.length = p.S.length) : (Pn.mk p.g p.o p.B T S).fit := by
  obtain ⟨h1, h2, h3, h4⟩ := h
  exact ⟨h1, h2, h3, hS.trans h4⟩
theorem lpAr2_eq (v e _n : D) (p : Pn) (k : Nat) : lpAr2 [v, e, .i (p.g.C.length : Int), .i ((k : Int) - 2), .i p.o.md, .i p.o.ns, .i p.o.rs, .i p.o.m, .i p.o.rd, .l (p.T.map encTs), .l (p.S.map encP), .s p.g.nm, .b p.g.dr, .l p.g.N, .l p.g.E, .l p.g.C, .i p.o.md, .i p.o.ns, .i p.o.rs, .i p.o.m, .i p.o.rd, .l (p.B.map encQ)] = arL0 (arP p) v e k p.S p.T := by
  have hk : ((k : Int) - 2 + 2).toNat = k := by omega
  simp only [lpAr2, map_decQ, map_decP, map_decTs, hk]
  rfl
theorem lpAr2_eq2 (v e : D) (p : Pn) (S : List Pt) (T : List (List Tp)) (k : Nat) : lpAr2 [v, e, .i (p.g.C.length : Int), .i ((k : Int) - 2), .i p.o.md, .i p.o.ns, .i p.o.rs, .i p.o.m, .i p.o.rd, .l (T.map encTs), .l (S.map encP), .s p.g.nm, .b p.g.dr, .l p.g.N, .l p.g.E, .l p.g.C, .i p.o.md, .i p.o.ns, .i p.o.rs, .i p.o.m, .i p.o.rd, .l (p.B.map encQ)] = arL0 (arP p) v e k S T := lpAr2_eq v e (.i 0) ⟨p.g, p.o, p.B, T, S⟩ k
theorem pack_ok {p : Pn} {c : Int} (h : (arP p).e p.S c = 0) : packR p c = [.l (((arP p).t p.S c).map encT), .i (extQ (uni (best ((arP p).P p.S c) p.o.ns))).1, .i (extQ (uni (best ((arP p).P p.S c) p.o.ns))).2, .i 0] := by rw [packR, if_pos h]
theorem pack_no {p : Pn} {c : Int} (h : ¬ (arP p).e p.S c = 0) : packR p c = [.l [], .i 0, .i 0, .i 2] := by rw [packR, if_neg h]
theorem prAr2_mk (v e : D) (p : Pn) (S : List Pt) (T : List (List Tp)) (k : Nat) (hk : k ≤ p.g.C.length + 1) (hf : p.fit) (hS : S.length = p.S.length) (hT : T.length = p.g.C.length + 1) (ho : p.o.ok = true) :
    prAr2 [v, e, .i (p.g.C.length : Int), .i ((k : Int) - 2), .i p.o.md, .i p.o.ns, .i p.o.rs, .i p.o.m, .i p.o.rd, .l (T.map encTs), .l (S.map encP), .s p.g.nm, .b p.g.dr, .l p.g.N, .l p.g.E, .l p.g.C, .i p.o.md, .i p.o.ns, .i p.o.rs, .i p.o.m, .i p.o.rd, .l (p.B.map encQ)] :=
  ⟨v, e, ⟨p.g, p.o, p.B, T, S⟩, k, rfl, hk, Pn.fit_set hf _ _ hS, hT, ho⟩
set_option maxHeartbeats 400000 in
theorem loopM19_0 : LoopMeets Try.prog F (R L19_0.key) L19_0 lb19_0 := by
  refine loop_meets (pre := R) mixed (sgAt_all (P := Try.prog) (pre := R) (Φ := F) (l := sg19) (fcm ⟨m48, fcm ⟨m49, fcm ⟨m17, (fun _ h => nomatch h)⟩⟩⟩)) (loops_n 0 lk19_0 fun k hk => by omega) L19_0 (fun ρ => ((ρ.getD 3 default).int + 2).toNat) le19_0 fun ρ _ hq => ?_
  obtain ⟨v, e, p, k, rfl, hk, hf, hT, ho⟩ : prAr2 ρ := hq
  have hf' := hf
  obtain ⟨f1, f2, f3, f4⟩ := hf'
  have hom := (Od.ok_iff.1 ho).2.2.2.1
  cases k with
  | zero =>
    have h2 : (((0 : Nat) : Int) - 2) = -2 := rfl
    simp (disch := omega) only [rt19_0, VT.ok, X.ds, X.d, Op2.ev, List.getD_cons_zero, List.getD_cons_succ, D.int_i, D.bool_b, Bool.false_eq_true, ↓reduceIte, dle_f, h2]
    refine round_exit (by omega) ?_
    have := lpAr2_eq v e (.i 0) p 0
    rw [h2] at this
    rw [show F L19_0.key = lpAr2 from rfl, this]; rfl
  | succ k =>
    have h2 : (((k + 1 : Nat) : Int) - 2) = (k : Int) - 1 := by omega
    have hnext : IntKind.i64.wrap ((k : Int) - 1 - 1) = ((k : Nat) : Int) - 2 := by rw [w64 (by omega)]; omega
    have hpk : packD [.p [.s p.g.nm, .b p.g.dr, .l p.g.N, .l p.g.E, .l p.g.C, .i p.o.md, .i p.o.ns, .i p.o.rs, .i p.o.m, .i p.o.rd, .l (p.B.map encQ), .l (p.T.map encTs), .l (p.S.map encP)], .i ((k : Int) - 1)] = packR p ((k : Int) - 1) := pack_eq p _
    have hpre : ownCP [.p [.s p.g.nm, .b p.g.dr, .l p.g.N, .l p.g.E, .l p.g.C, .i p.o.md, .i p.o.ns, .i p.o.rs, .i p.o.m, .i p.o.rd, .l (p.B.map encQ), .l (p.T.map encTs), .l (p.S.map encP)], .i ((k : Int) - 1)] := ⟨p, _, rfl, hf⟩
    have hlp := lpAr2_eq v e (.i 0) p (k + 1)
    rw [h2] at hlp ⊢
    have hout : arL0 (arP p) v e (k + 1) p.S p.T = arL (arP p) v e k p.S p.T := rfl
    rw [hout] at hlp
    simp (disch := omega) only [rt19_0, VT.ok, Nd.holds, X.outs, X.ds, X.d, Op1.ev, Op2.ev, List.cons_append, List.nil_append, List.getD_cons_zero, List.getD_cons_succ, D.int_i, D.bool_b, D.lst_l, Int.toNat_natCast, List.length_map, implies_true, true_and, F17, R17, F49, R49, ↓reduceIte, dle_t, dlt_t, w64', hpk]
    refine ⟨fun _ => hpre, ?_⟩
    by_cases hc : (arP p).e p.S ((k : Int) - 1) = 0
    · rw [pack_ok hc]
      simp only [takeD_zero, takeD_cons, List.cons_append, List.nil_append, List.getD_cons_zero, List.getD_cons_succ, D.int_i, Bool.false_eq_true, if_false, takeD1_0, show (!((0 : Int) == 0)) = false from rfl]
      cases k with
      | zero =>
        have h3 : (((0 : Nat) : Int) - 1) = -1 := rfl
        rw [h3] at hc hlp hnext ⊢
        simp (disch := omega) only [↓reduceIte, dlt_t, updTs]
        rw [show (-1 - 1 : Int) = ((0 : Nat) : Int) - 2 from rfl]
        refine round_step [v, e, .i (p.g.C.length : Int), .i (((0 : Nat) : Int) - 2), .i p.o.md, .i p.o.ns, .i p.o.rs, .i p.o.m, .i p.o.rd, .l ((p.T.set p.g.C.length ((arP p).t p.S (-1))).map encTs), .l ((p.S).map encP), .s p.g.nm, .b p.g.dr, .l p.g.N, .l p.g.E, .l p.g.C, .i p.o.md, .i p.o.ns, .i p.o.rs, .i p.o.m, .i p.o.rd, .l (p.B.map encQ)] rfl (prAr2_mk v e p p.S (p.T.set p.g.C.length ((arP p).t p.S (-1))) 0 (by omega) hf rfl (by rw [List.length_set]; exact hT) ho) ?_ ?_
        · show (((0 : Nat) : Int) - 2 + 2).toNat < ((-1 : Int) + 2).toNat
          decide
        · rw [show F L19_0.key = lpAr2 from rfl, lpAr2_eq2, hlp, arL, if_pos hc]; rfl
      | succ k =>
        have h3 : (((k + 1 : Nat) : Int) - 1) = (k : Int) := by omega
        rw [h3] at hc hlp hnext ⊢
        have hkC : k < p.g.C.length := by omega
        have hq := uni_ok (best ((arP p).P p.S k) p.o.ns)
        obtain ⟨w1, w2⟩ := z_wrap hq hom
        have hz : (arP p).z p.S k = ((extQ (uni (best ((arP p).P p.S k) p.o.ns))).1 + 2 * p.o.m, (extQ (uni (best ((arP p).P p.S k) p.o.ns))).2 + 2 * p.o.m) := rfl
        simp (disch := omega) only [List.getD_cons_zero, List.getD_cons_succ, D.int_i, D.bool_b, Int.toNat_natCast, List.length_map, Bool.false_eq_true, implies_true, true_and, ↓reduceIte, dle_t, dlt_t, dlt_f, List.length_map, updTs, updP, w1, w2, List.length_set, setP_at, encP, fn17_eq, Int.toNat_natCast]
        have hzk : bxB 0 0 ((extQ (uni (best ((arP p).P p.S k) p.o.ns))).1 + 2 * p.o.m) ((extQ (uni (best ((arP p).P p.S k) p.o.ns))).2 + 2 * p.o.m) = zOk ((arP p).z p.S k) := rfl
        rw [hzk, ← hz]
        cases hzo : zOk ((arP p).z p.S k)
        · simp only [Bool.not_false, if_true]
          refine round_exit (by omega) ?_
          rw [show F L19_0.key = lpAr2 from rfl, hlp]
          rw [arL, if_pos hc, if_neg (by rw [hzo]; decide)]
        · simp only [Bool.not_true, Bool.false_eq_true, if_false]
          rw [show ((k : Int) - 1) = ((k + 1 : Nat) : Int) - 2 by omega]
          refine round_step [v, e, .i (p.g.C.length : Int), .i (((k + 1 : Nat) : Int) - 2), .i p.o.md, .i p.o.ns, .i p.o.rs, .i p.o.m, .i p.o.rd, .l ((p.T.set k ((arP p).t p.S k)).map encTs), .l ((p.S.set k ((arP p).z p.S k)).map encP), .s p.g.nm, .b p.g.dr, .l p.g.N, .l p.g.E, .l p.g.C, .i p.o.md, .i p.o.ns, .i p.o.rs, .i p.o.m, .i p.o.rd, .l (p.B.map encQ)] rfl (prAr2_mk v e p (p.S.set k ((arP p).z p.S k)) (p.T.set k ((arP p).t p.S k)) (k + 1) (by omega) hf (List.length_set ..) (by rw [List.length_set]; exact hT) ho) ?_ ?_
          · show (((k + 1 : Nat) : Int) - 2 + 2).toNat < ((k : Int) + 2).toNat
            omega
          · rw [show F L19_0.key = lpAr2 from rfl, lpAr2_eq2, hlp, arL_next _ _ _ _ _ _ hc hzo]; rfl
    · rw [pack_no hc]
      simp only [takeD_zero, takeD_cons, List.cons_append, List.nil_append, List.getD_cons_zero, List.getD_cons_succ, D.int_i, if_true, takeD1_0, show (!((2 : Int) == 0)) = true from rfl, if_true]
      refine round_exit (by omega) ?_
      rw [show F L19_0.key = lpAr2 from rfl, hlp]
      cases k with
      | zero => rw [arL, if_neg (show ¬ (arP p).e p.S (-1) = 0 from hc)]; rfl
      | succ k =>
        have h3 : (((k + 1 : Nat) : Int) - 1) = (k : Int) := by omega
        rw [h3] at hc ⊢
        rw [arL, if_neg hc]
theorem sizesD_eq (g : Gd) (o : Od) (B : List Bx) : sizesD [.s g.nm, .b g.dr, .l g.N, .l g.E, .l g.C, .i o.md, .i o.ns, .i o.rs, .i o.m, .i o.rd, .l (B.map encQ)] = [.l ((sizesR g o B).1.map encQ), .i (sizesR g o B).2] := by
  show [D.l ((sizesR g o ((B.map encQ).map decQ)).1.map encQ), .i (sizesR g o ((B.map encQ).map decQ)).2] = _
  rw [map_decQ]
theorem inE_ok {g : Gd} {o : Od} {B : List Bx} (h : inE g o B = 0) : validE g = 0 ∧ o.ok = true ∧ B.length = g.N.length ∧ anyN (badB g.N B) B.length = false ∧ anyN (ovN B) B.length = false := by
  unfold inE at h
  split at h
  · rename_i h1
    split at h
    · rename_i h2
      split at h
      · rename_i h3
        split at h
        · cases h
        · rename_i h4
          split at h
          · cases h
          · rename_i h5
            exact ⟨h1, h2, h3, Bool.eq_false_iff.2 h4, Bool.eq_false_iff.2 h5⟩
      · cases h
    · cases h
  · rename_i h1; exact absurd h h1
theorem planD_eq (g : Gd) (o : Od) (B : List Bx) : planD [.s g.nm, .b g.dr, .l g.N, .l g.E, .l g.C, .i o.md, .i o.ns, .i o.rs, .i o.m, .i o.rd, .l (B.map encQ)] =
    if inE g o B = 0 then (match (arOf g o B).all with
      | some (S, T) => [Pn.d ⟨g, o, B, T, S⟩, .i 0]
      | none => [.p [], .i 2]) else [.p [], .i (inE g o B)] := by
  obtain ⟨nm, dr, N, E, C⟩ := g
  obtain ⟨md, ns, rs, m, rd⟩ := o
  simp only [planD, map_decQ]
  rfl
theorem rep_T (n : Nat) : List.replicate n [D.l []] = (List.replicate n ([] : List Tp)).map encTs := by
  rw [List.map_replicate]; rfl
theorem rep_S (n : Nat) : List.replicate n [D.i 0, .i 0] = (List.replicate n pz).map encP := by
  rw [List.map_replicate]; rfl
theorem rep_Z (n : Nat) : List.replicate n [D.i 0, .i 0, .i 0, .i 0] = (List.replicate n pz).map encZ := by
  rw [List.map_replicate]; rfl
theorem m19 : Meets Try.prog 19 S19 (R 19) (F 19) := by
  refine meets_of_vt (pre := R) (Φ := F) mixed (sgAt_all (P := Try.prog) (pre := R) (Φ := F) (l := sg19) (fcm ⟨m48, fcm ⟨m49, fcm ⟨m17, (fun _ h => nomatch h)⟩⟩⟩)) Try.func19 b19 n19 (loops_n 1 k19 fun k hk => match k, hk with | 0, _ => loop_this lf19_0 loopM19_0) e19 fun ds hf _ => ?_
  obtain ⟨g, o, B, ds', rfl, h0, hm, _⟩ := fitsGO hf.flat
  obtain rfl := fits0 h0
  simp only [vt19, VT.ok, Nd.holds, X.outs, X.ds, X.d, Op1.ev, Op2.ev, takeD_zero, takeD_cons, List.cons_append, List.nil_append, List.getD_cons_zero, List.getD_cons_succ, D.int_i, D.bool_b, D.lst_l, Int.toNat_natCast, implies_true, true_and, F48, R48, F11900, R11900, F19, inD_eq, planD_eq]
  by_cases h : inE g o B = 0
  · obtain ⟨h1, h2, h3, _⟩ := inE_ok h
    obtain ⟨v1, v2⟩ := valid_len h1
    have hb : (!(inE g o B == 0)) = false := by simp [h]
    have e1 : ((g.C.length : Int) + 1).toNat = g.C.length + 1 := by omega
    have hc1 : ((g.C.length : Int) - 1) = ((g.C.length + 1 : Nat) : Int) - 2 := by omega
    simp (disch := omega) only [h, ↓reduceIte, dle_t, beq_t, w64', suc_nat, rep_T, rep_S]
    have hpre := prAr2_mk (.p []) (.i 0) ⟨g, o, B, (arOf g o B).T0, (arOf g o B).S0⟩ (arOf g o B).S0 (arOf g o B).T0 (g.C.length + 1) (Nat.le_refl _) ⟨v1, v2, h3, by simp [Ar.S0, arOf]⟩ rfl (by simp [Ar.T0, arOf]) h2
    have hlp := lpAr2_eq2 (.p []) (.i 0) ⟨g, o, B, (arOf g o B).T0, (arOf g o B).S0⟩ (arOf g o B).S0 (arOf g o B).T0 (g.C.length + 1)
    rw [← hc1] at hpre hlp
    have hlp' : lpAr2 [.p [], .i 0, .i (g.C.length : Int), .i ((g.C.length : Int) - 1), .i o.md, .i o.ns, .i o.rs, .i o.m, .i o.rd, .l ((List.replicate (g.C.length + 1) ([] : List Tp)).map encTs), .l ((List.replicate g.C.length pz).map encP), .s g.nm, .b g.dr, .l g.N, .l g.E, .l g.C, .i o.md, .i o.ns, .i o.rs, .i o.m, .i o.rd, .l (B.map encQ)] = arL (arOf g o B) (.p []) (.i 0) g.C.length (arOf g o B).S0 (arOf g o B).T0 := hlp
    rw [hlp']
    refine ⟨fun _ => trivial, fun _ => trivial, fun _ => trivial, fun _ => hpre, ?_⟩
    rcases arL_run (arOf g o B) (.p []) (.i 0) g.C.length (arOf g o B).S0 (arOf g o B).T0 with ⟨S', T', k1, k2⟩ | ⟨k1, c, x, y, k2⟩
    · have k1' : (arOf g o B).all = some (S', T') := k1
      rw [k2, k1']
      simp only [takeD_zero, takeD_cons, List.getD_cons_zero, List.getD_cons_succ, D.int_i, Bool.false_eq_true, if_false, show ((1 : Int) == 0) = false from rfl]
      rfl
    · have k1' : (arOf g o B).all = none := k1
      rw [k2, k1']
      simp only [takeD_zero, takeD_cons, List.getD_cons_zero, List.getD_cons_succ, D.int_i, if_true, show ((0 : Int) == 0) = true from rfl]
  · have hb : (!(inE g o B == 0)) = true := by simp [h]
    rw [if_pos hb, if_neg h]
theorem loopM12_0 : LoopMeets Try.prog F (R L12_0.key) L12_0 lb12_0 := by
  refine loop_meets (pre := R) mixed (sgAt_all (P := Try.prog) (pre := R) (Φ := F) (l := sg12) (fcm ⟨m19, (fun _ h => nomatch h)⟩)) (loops_n 0 lk12_0 fun k hk => by omega) L12_0 (fun ρ => ((ρ.getD 1 default).int - (ρ.getD 2 default).int).toNat) le12_0 fun ρ _ hq => ?_
  obtain ⟨S, j, acc, rfl, hj, h16, hacc⟩ : prSz ρ := hq
  by_cases hlt : j < S.length
  · have hd : S.drop j = S.getD j pz :: S.drop (j + 1) := drop_at pz S hlt
    simp (disch := omega) only [rt12_0, VT.ok, Nd.holds, X.ds, X.d, Op1.ev, Op2.ev, List.getD_cons_zero, List.getD_cons_succ, D.int_i, D.bool_b, D.lst_l, Int.toNat_natCast, List.length_map, implies_true, true_and, ↓reduceIte, dle_t, dlt_t, w64', rowPz, encP, snoc_le]
    refine round_next ⟨⟨S, j + 1, _, rfl, by omega, h16, ?_⟩, ?_, ?_⟩
    · rw [List.length_append]; simp only [List.length_singleton]; omega
    · show ((S.length : Int) - ((j + 1 : Nat) : Int)).toNat < ((S.length : Int) - (j : Int)).toNat
      omega
    · show lpSz [.l (S.map encP), .i (S.length : Int), .i ((j + 1 : Nat) : Int), .l (acc ++ [encZ (S.getD j pz)])] = lpSz [.l (S.map encP), .i (S.length : Int), .i (j : Int), .l acc]
      simp only [lpSz, Int.toNat_natCast, map_decP, List.length_map, hd, List.map_cons, List.append_assoc, List.singleton_append]
  · have hj : j = S.length := by omega
    subst hj
    simp (disch := omega) only [rt12_0, VT.ok, X.ds, X.d, Op2.ev, List.getD_cons_zero, List.getD_cons_succ, D.int_i, D.bool_b, Bool.false_eq_true, ↓reduceIte, dlt_f]
    refine round_exit (by omega) ?_
    show lpSz [.l (S.map encP), .i (S.length : Int), .i (S.length : Int), .l acc] = _
    simp only [lpSz, Int.toNat_natCast, map_decP, List.length_map, List.drop_length, List.map_nil, List.append_nil]
theorem run_len (a : Ar) : ∀ (k : Nat) (S S' : List Pt) (T T' : List (List Tp)), a.run k S T = some (S', T') → S'.length = S.length ∧ T'.length = T.length
  | 0, S, S', T, T', h => by
    unfold Ar.run at h
    split at h
    · simp only [Option.some.injEq, Prod.mk.injEq] at h
      obtain ⟨rfl, rfl⟩ := h
      exact ⟨rfl, List.length_set ..⟩
    · cases h
  | k + 1, S, S', T, T', h => by
    unfold Ar.run at h
    split at h
    · split at h
      · obtain ⟨h1, h2⟩ := run_len a k _ _ _ _ h
        exact ⟨h1.trans (List.length_set ..), h2.trans (List.length_set ..)⟩
      · cases h
    · cases h
theorem all_len {g : Gd} {o : Od} {B : List Bx} {S : List Pt} {T : List (List Tp)} (h : (arOf g o B).all = some (S, T)) : S.length = g.C.length ∧ T.length = g.C.length + 1 := by
  obtain ⟨h1, h2⟩ := run_len _ _ _ _ _ _ h
  rw [h1, h2]
  simp [Ar.S0, Ar.T0, arOf]
theorem szB_map (S : List Pt) : S.map encZ = (S.map szB).map encQ := by rw [List.map_map]; rfl
theorem m12 : Meets Try.prog 12 S12 (R 12) (F 12) := by
  refine meets_of_vt (pre := R) (Φ := F) mixed (sgAt_all (P := Try.prog) (pre := R) (Φ := F) (l := sg12) (fcm ⟨m19, (fun _ h => nomatch h)⟩)) Try.func12 b12 n12 (loops_n 1 k12 fun k hk => match k, hk with | 0, _ => loop_this lf12_0 loopM12_0) e12 fun ds hf _ => ?_
  obtain ⟨g, o, B, ds', rfl, h0, hm, _⟩ := fitsGO hf.flat
  obtain rfl := fits0 h0
  simp only [vt12, VT.ok, Nd.holds, X.outs, X.ds, X.d, Op1.ev, Op2.ev, List.cons_append, List.nil_append, List.getD_cons_zero, List.getD_cons_succ, D.int_i, D.bool_b, implies_true, true_and, F19, R19, F11200, R11200, F12, planD_eq, sizesD_eq]
  by_cases h : inE g o B = 0
  · obtain ⟨h1, h2, h3, _⟩ := inE_ok h
    obtain ⟨v1, v2⟩ := valid_len h1
    rw [if_pos h]
    cases ha : (arOf g o B).all with
    | none =>
      have hr : sizesR g o B = ([], 2) := by rw [sizesR, if_pos h, ha]
      rw [hr]; rfl
    | some r =>
      obtain ⟨S, T⟩ := r
      obtain ⟨l1, l2⟩ := all_len ha
      have hr : sizesR g o B = (S.map szB, 0) := by rw [sizesR, if_pos h, ha]
      have hpre : prSz [.l (S.map encP), .i (S.length : Int), .i 0, .l []] := ⟨S, 0, [], rfl, by omega, by omega, by simp⟩
      have hl : lpSz [.l (S.map encP), .i (S.length : Int), .i 0, .l []] = [.i 0, .i (S.length : Int), .l (S.map encZ)] := by
        simp only [lpSz, map_decP, List.length_map, Int.toNat_zero, List.drop_zero, List.nil_append]
      rw [hr]
      simp only [takeD_zero, takeD_cons, List.cons_append, List.nil_append, List.getD_cons_zero, List.getD_cons_succ, D.int_i, D.lst_l, List.length_map, Bool.false_eq_true, if_false, and_true, Pn.d, D.ptd_p, Pn.l, List.length_cons, List.length_nil, show (!((0 : Int) == 0)) = false from rfl, hl, szB_map]
      exact ⟨fun _ => rfl, fun _ => hpre⟩
  · have hb : (!(inE g o B == 0)) = true := by simp [h]
    have hr : sizesR g o B = ([], inE g o B) := by rw [sizesR, if_neg h]
    rw [if_neg h, hr]
    simp only [takeD_zero, takeD_cons, List.cons_append, List.nil_append, List.getD_cons_zero, List.getD_cons_succ, D.int_i, if_true, hb, if_true]
    rfl
end Go.Proofs.Ytindllmeeckfcaa.rv
namespace Go.Proofs.Ytindllmeeckfcaa.rv
set_option maxRecDepth 10000
open Go.RV
theorem partR_eq (g : Gd) (B : List Bx) (c : Int) (S : List Pt) : partRD [.s g.nm, .b g.dr, .l g.N, .l g.E, .l g.C, .l (B.map encQ), .i c, .l (S.map encZ)] = [.l ((partP g.N g.C B S c).map encP)] := by
  show [D.l ((partP g.N g.C ((B.map encQ).map decQ) ((S.map encZ).map decZ) c).map encP)] = _
  rw [map_decQ, map_decZ]
theorem lpRs_eq (v e : D) (g : Gd) (o : Od) (B : List Bx) (S : List Pt) (k : Nat) : lpRs [.l (B.map encQ), v, e, .i ((k : Int) - 1), .s g.nm, .b g.dr, .l g.N, .l g.E, .l g.C, .i o.md, .i o.ns, .i o.rs, .i o.m, .i o.rd, .l (S.map encZ)] = arM (arOf g o B) v e k S := by
  have hk : ((k : Int) - 1 + 1).toNat = k := by omega
  simp only [lpRs, map_decQ, map_decZ, hk]
  rfl
theorem prRs_mk (v e : D) (g : Gd) (o : Od) (B : List Bx) (S : List Pt) (k : Nat) (hk : k ≤ g.C.length) (h : g.N.length ≤ 64 ∧ g.C.length ≤ 16 ∧ B.length = g.N.length ∧ S.length = g.C.length) (ho : o.ok = true) :
    prRs [.l (B.map encQ), v, e, .i ((k : Int) - 1), .s g.nm, .b g.dr, .l g.N, .l g.E, .l g.C, .i o.md, .i o.ns, .i o.rs, .i o.m, .i o.rd, .l (S.map encZ)] := ⟨v, e, g, o, B, S, k, rfl, hk, h, ho⟩
theorem arM_next (a : Ar) (v e : D) (k : Nat) (S : List Pt) (h : a.e S k = 0) (hz : zOk (a.z S k) = true) : arM a v e (k + 1) S = arM a v e k (S.set k (a.z S k)) := by
  rw [arM, if_pos h, if_pos hz]
theorem ext_sub {q : Bx} (h : bxQ q = true) : IntKind.i64.wrap (q.2.2.1 - q.1) = (extQ q).1 ∧ IntKind.i64.wrap (q.2.2.2 - q.2.1) = (extQ q).2 := ext_i64 (smQ_of h)
set_option maxHeartbeats 400000 in
theorem loopM13_0 : LoopMeets Try.prog F (R L13_0.key) L13_0 lb13_0 := by
  refine loop_meets (pre := R) mixed (sgAt_all (P := Try.prog) (pre := R) (Φ := F) (l := sg13) (fcm ⟨m32, fcm ⟨m34, fcm ⟨m33, fcm ⟨m35, fcm ⟨m36, (fun _ h => nomatch h)⟩⟩⟩⟩⟩)) (loops_n 0 lk13_0 fun k hk => by omega) L13_0 (fun ρ => ((ρ.getD 3 default).int + 2).toNat) le13_0 fun ρ _ hq => ?_
  obtain ⟨v, e, g, o, B, S, k, rfl, hk, hfit, ho⟩ : prRs ρ := hq
  have hfit' := hfit
  obtain ⟨f1, f2, f3, f4⟩ := hfit'
  have hom := (Od.ok_iff.1 ho).2.2.2.1
  have hlp := lpRs_eq v e g o B S k
  have hP : partP g.N g.C B S ((k : Int) - 1) = (arOf g o B).P S ((k : Int) - 1) := rfl
  have hlen := partP_len g.N g.C B S ((k : Int) - 1)
  have hml : (partP g.N g.C B S ((k : Int) - 1)).length ≤ maxLen := by rw [maxLen_val]; omega
  have hpre : bestPre [.l ((partP g.N g.C B S ((k : Int) - 1)).map encP), .i o.ns] := ⟨_, _, rfl, hml⟩
  have hpreP : partRP [.s g.nm, .b g.dr, .l g.N, .l g.E, .l g.C, .l (B.map encQ), .i ((k : Int) - 1), .l (S.map encZ)] := ⟨g, B, _, S, rfl, f1, f2, f3, f4⟩
  simp (disch := omega) only [rt13_0, VT.ok, Nd.holds, X.outs, X.ds, X.d, Op1.ev, Op2.ev, takeD_zero, takeD_cons, List.cons_append, List.nil_append, List.getD_cons_zero, List.getD_cons_succ, D.int_i, D.bool_b, D.lst_l, List.length_map, implies_true, true_and, F36, R36, F35, R35, F33, R33, F34, R34, ↓reduceIte, dle_t, dlt_t, w64', partR_eq, bestD_eq]
  refine ⟨fun _ => hpreP, fun _ => hpre, ?_⟩
  by_cases hc : cerr (partP g.N g.C B S ((k : Int) - 1)) 0 o.ns = 0
  · have hb : (!(cerr (partP g.N g.C B S ((k : Int) - 1)) 0 o.ns == 0)) = false := by simp [hc]
    simp only [show (!((0 : Int) == 0)) = false from rfl, Bool.false_eq_true, if_false, hc, if_true]
    cases k with
    | zero =>
      have hlt : decide ((((0 : Nat) : Int) - 1) < 0) = true := by decide
      rw [if_pos hlt]
      refine round_exit (by omega) ?_
      rw [show F L13_0.key = lpRs from rfl, hlp, arM, if_pos (show (arOf g o B).e S (-1) = 0 from hc)]
      rfl
    | succ k =>
      have h3 : (((k + 1 : Nat) : Int) - 1) = (k : Int) := by omega
      rw [h3] at hc hlp ⊢
      have hkC : k < g.C.length := by omega
      have hq := uni_ok (best (partP g.N g.C B S k) o.ns)
      obtain ⟨w1, w2⟩ := z_wrap hq hom
      obtain ⟨x1, x2⟩ := ext_sub hq
      have hz : (arOf g o B).z S k = ((extQ (uni (best (partP g.N g.C B S k) o.ns))).1 + 2 * o.m, (extQ (uni (best (partP g.N g.C B S k) o.ns))).2 + 2 * o.m) := rfl
      simp (disch := omega) only [takeD_zero, takeD_cons, List.cons_append, List.nil_append, List.getD_cons_zero, List.getD_cons_succ, D.int_i, D.bool_b, Int.toNat_natCast, List.length_map, Bool.false_eq_true, implies_true, true_and, ↓reduceIte, dle_t, dlt_t, dlt_f, uni_eq, x1, x2, w1, w2, updZ, List.length_map, List.length_set, setZ_at, encZ, encQ, szB, fn36_eq, Int.toNat_natCast]
      have hzk : bxB 0 0 ((extQ (uni (best (partP g.N g.C B S k) o.ns))).1 + 2 * o.m) ((extQ (uni (best (partP g.N g.C B S k) o.ns))).2 + 2 * o.m) = zOk ((arOf g o B).z S k) := rfl
      rw [hzk, ← hz]
      have hcz : (fun p : Pt => [D.i 0, D.i 0, D.i p.1, D.i p.2]) = encZ := rfl
      cases hzo : zOk ((arOf g o B).z S k)
      · simp only [Bool.not_false, if_true]
        refine round_exit (by omega) ?_
        rw [show F L13_0.key = lpRs from rfl, hlp, arM, if_pos (show (arOf g o B).e S k = 0 from hc), if_neg (by rw [hzo]; decide)]
      · simp only [Bool.not_true, Bool.false_eq_true, if_false]
        have hk1 : ((k : Int) - 1) = ((k : Nat) : Int) - 1 := rfl
        refine round_step [.l (B.map encQ), v, e, .i ((k : Int) - 1), .s g.nm, .b g.dr, .l g.N, .l g.E, .l g.C, .i o.md, .i o.ns, .i o.rs, .i o.m, .i o.rd, .l ((S.set k ((arOf g o B).z S k)).map encZ)] rfl (prRs_mk v e g o B _ k (by omega) ⟨f1, f2, f3, by rw [List.length_set]; exact f4⟩ ho) ?_ ?_
        · show ((k : Int) - 1 + 2).toNat < ((k : Int) + 2).toNat
          omega
        · have e1 := lpRs_eq v e g o B (S.set k ((arOf g o B).z S k)) k
          have e2 := arM_next (arOf g o B) v e k S hc hzo
          rw [show F L13_0.key = lpRs from rfl]
          exact e1.trans (e2.symm.trans hlp.symm)
  · have hb : (!(cerr (partP g.N g.C B S ((k : Int) - 1)) 0 o.ns == 0)) = true := by simp [hc]
    rw [if_pos hb]
    refine round_exit (by omega) ?_
    rw [show F L13_0.key = lpRs from rfl, hlp]
    cases k with
    | zero => rw [arM, if_neg (show ¬ (arOf g o B).e S (-1) = 0 from hc)]; rfl
    | succ k =>
      have h3 : (((k + 1 : Nat) : Int) - 1) = (k : Int) := by omega
      rw [h3] at hc ⊢
      rw [arM, if_neg (show ¬ (arOf g o B).e S k = 0 from hc)]
theorem m13 : Meets Try.prog 13 S13 (R 13) (F 13) := by
  refine meets_of_vt (pre := R) (Φ := F) mixed (sgAt_all (P := Try.prog) (pre := R) (Φ := F) (l := sg13) (fcm ⟨m32, fcm ⟨m34, fcm ⟨m33, fcm ⟨m35, fcm ⟨m36, (fun _ h => nomatch h)⟩⟩⟩⟩⟩)) Try.func13 b13 n13 (loops_n 1 k13 fun k hk => match k, hk with | 0, _ => loop_this lf13_0 loopM13_0) e13 fun ds hf _ => ?_
  obtain ⟨g, o, B, ds', rfl, h0, hm, _⟩ := fitsGO hf.flat
  obtain rfl := fits0 h0
  simp only [vt13, VT.ok, Nd.holds, X.outs, X.ds, X.d, Op1.ev, Op2.ev, takeD_zero, takeD_cons, List.cons_append, List.nil_append, List.getD_cons_zero, List.getD_cons_succ, D.int_i, D.bool_b, D.lst_l, Int.toNat_natCast, implies_true, true_and, F32, R32, F11300, R11300, F13, inD_eq, sizesD_eq]
  by_cases h : inE g o B = 0
  · obtain ⟨h1, h2, h3, _⟩ := inE_ok h
    obtain ⟨v1, v2⟩ := valid_len h1
    have hb : (!(inE g o B == 0)) = false := by simp [h]
    simp (disch := omega) only [dle_t, beq_t, w64', rep_Z]
    have hpre := prRs_mk (.l []) (.i 0) g o B (List.replicate g.C.length pz) g.C.length (Nat.le_refl _) ⟨v1, v2, h3, by simp⟩ h2
    rw [lpRs_eq]
    refine ⟨fun _ => trivial, fun _ => hpre, ?_⟩
    rcases arM_run (arOf g o B) (.l []) (.i 0) g.C.length (arOf g o B).S0 (arOf g o B).T0 with ⟨S', T', k1, k2⟩ | ⟨k1, c, x, k2⟩
    · have k1' : (arOf g o B).all = some (S', T') := k1
      have k2' : arM (arOf g o B) (.l []) (.i 0) g.C.length (List.replicate g.C.length pz) = [.i 1, .l [], .i 0, .i (-1), .l (S'.map encZ)] := k2
      have hr : sizesR g o B = (S'.map szB, 0) := by rw [sizesR, if_pos h, k1']
      rw [k2', hr]
      simp only [takeD_zero, takeD_cons, List.getD_cons_zero, List.getD_cons_succ, D.int_i, Bool.false_eq_true, if_false, show ((1 : Int) == 0) = false from rfl, szB_map]
    · have k1' : (arOf g o B).all = none := k1
      have k2' : arM (arOf g o B) (.l []) (.i 0) g.C.length (List.replicate g.C.length pz) = [.i 0, .l [], .i 2, c, x] := k2
      have hr : sizesR g o B = ([], 2) := by rw [sizesR, if_pos h, k1']
      rw [k2', hr]
      simp only [takeD_zero, takeD_cons, List.getD_cons_zero, List.getD_cons_succ, D.int_i, if_true, show ((0 : Int) == 0) = true from rfl]
      rfl
  · have hb : (!(inE g o B == 0)) = true := by simp [h]
    have hr : sizesR g o B = ([], inE g o B) := by rw [sizesR, if_neg h]
    rw [if_pos hb, hr]
    rfl
end Go.Proofs.Ytindllmeeckfcaa.rv
namespace Go.Proofs.Ytindllmeeckfcaa.rv
set_option maxRecDepth 10000
open Go.RV
theorem shEq (q : Bx) (x y : Int) (h : smQ q) (hx : sm x) (hy : sm y) : fn21 [.i q.1, .i q.2.1, .i q.2.2.1, .i q.2.2.2, .i x, .i y] = [.i (shQ q x y).1, .i (shQ q x y).2.1, .i (shQ q x y).2.2.1, .i (shQ q x y).2.2.2] := fn21_eq q x y h hx hy
theorem putN_len (B : List Bx) (x y : Int) : ∀ (l : List Nat) (M : List Bx), (putN B l x y M).length = M.length
  | [], M => rfl
  | v :: l, M => by
    show (putN B l x y (M.set v _)).length = _
    rw [putN_len B x y l, List.length_set]
theorem loopMp10_0_1 : LoopMeets Try.prog F (R Lp10_0_1.key) Lp10_0_1 lbp10_0_1 := by
  refine loop_meets (pre := R) mixed (sgAt_all (P := Try.prog) (pre := R) (Φ := F) (l := sgp10_0) (fcm ⟨m21, fcm ⟨m22, fcm ⟨m23, (fun _ h => nomatch h)⟩⟩⟩)) (loops_n 0 lkp10_0_1 fun k hk => by omega) Lp10_0_1 (fun ρ => ((ρ.getD 1 default).int - (ρ.getD 2 default).int).toNat) lep10_0_1 fun ρ _ hq => ?_
  obtain ⟨l, j, B, M, q, r, rfl, hj, h64, hl, hM, hB, ⟨hq1, hq2⟩, hr⟩ : prPn ρ := hq
  have hr' := hr
  unfold smQ at hr'
  have hs1 : sm (q.1 - r.1) := by unfold sm at *; omega
  have hs2 : sm (q.2.1 - r.2.1) := by unfold sm at *; omega
  have w1 : IntKind.i64.wrap (q.1 - r.1) = q.1 - r.1 := by unfold sm at hs1; exact w64 (by omega)
  have w2 : IntKind.i64.wrap (q.2.1 - r.2.1) = q.2.1 - r.2.1 := by unfold sm at hs2; exact w64 (by omega)
  by_cases hlt : j < l.length
  · have hv : l.getD j 0 < B.length := hl _ (getD_memN hlt)
    have hd : l.drop j = l.getD j 0 :: l.drop (j + 1) := drop_at 0 l hlt
    have hb := shEq (B.getD (l.getD j 0) z4) _ _ (hB _ (getD_mem z4 hv)) hs1 hs2
    simp (disch := omega) only [rtp10_0_1, VT.ok, Nd.holds, X.outs, X.ds, X.d, Op1.ev, Op2.ev, takeD_zero, takeD_cons, List.cons_append, List.nil_append, List.getD_cons_zero, List.getD_cons_succ, D.int_i, D.bool_b, D.lst_l, Int.toNat_natCast, List.length_map, implies_true, true_and, F21, R21, ↓reduceIte, dle_t, dlt_t, w64', rowNn, encN, rowQz, encQ, w1, w2, hb, List.length_map, splQ0, setQ]
    refine round_next ⟨⟨l, j + 1, B, M.set (l.getD j 0) (shQ (B.getD (l.getD j 0) z4) (q.1 - r.1) (q.2.1 - r.2.1)), q, r, rfl, by omega, h64, hl, (List.length_set ..).trans hM, hB, ⟨hq1, hq2⟩, hr⟩, ?_, ?_⟩
    · show ((l.length : Int) - ((j + 1 : Nat) : Int)).toNat < ((l.length : Int) - (j : Int)).toNat
      omega
    · show lpPn [.l (l.map encN), .i (l.length : Int), .i ((j + 1 : Nat) : Int), .l (B.map encQ), .l ((M.set (l.getD j 0) (shQ (B.getD (l.getD j 0) z4) (q.1 - r.1) (q.2.1 - r.2.1))).map encQ), .i q.1, .i q.2.1, .i q.2.2.1, .i q.2.2.2, .i r.1, .i r.2.1, .i r.2.2.1, .i r.2.2.2] = lpPn [.l (l.map encN), .i (l.length : Int), .i (j : Int), .l (B.map encQ), .l (M.map encQ), .i q.1, .i q.2.1, .i q.2.2.1, .i q.2.2.2, .i r.1, .i r.2.1, .i r.2.2.1, .i r.2.2.2]
      simp only [lpPn, Int.toNat_natCast, map_decN, map_decQ, List.length_map, hd, putN, List.foldl_cons]
  · have hj : j = l.length := by omega
    subst hj
    simp (disch := omega) only [rtp10_0_1, VT.ok, X.ds, X.d, Op2.ev, List.getD_cons_zero, List.getD_cons_succ, D.int_i, D.bool_b, Bool.false_eq_true, ↓reduceIte, dlt_f]
    refine round_exit (by omega) ?_
    show lpPn [.l (l.map encN), .i (l.length : Int), .i (l.length : Int), .l (B.map encQ), .l (M.map encQ), .i q.1, .i q.2.1, .i q.2.2.1, .i q.2.2.2, .i r.1, .i r.2.1, .i r.2.2.1, .i r.2.2.2] = _
    simp only [lpPn, Int.toNat_natCast, map_decN, map_decQ, List.length_map, List.drop_length, putN, List.foldl_nil]
theorem rowTz {l : List Tp} {i : Nat} (h : i < l.length) : (l.map encT).getD i [] = encT (l.getD i (0, z4)) := row_get (0, z4) h
theorem putTs_cons (B : List Bx) (own : List Nat) (x y : Int) (t : Tp) (l : List Tp) (s : Pl) : putTs B own x y (t :: l) s = putTs B own x y l (putT B own x y s t) := rfl
theorem lpPt_eq (c x y : Int) (l : List Tp) (_n : D) (j : Nat) (p : Pn) (M K : List Bx) : lpPt [.i c, .i x, .i y, .l (l.map encT), .i (l.length : Int), .i (j : Int), .l (p.B.map encQ), p.d, .l (M.map encQ), .l (K.map encQ)] = [.i 0, .i (l.length : Int), .l ((putTs p.B (ownL p.g.N c) x y (l.drop j) (M, K)).1.map encQ), .l ((putTs p.B (ownL p.g.N c) x y (l.drop j) (M, K)).2.map encQ)] := by
  have e : cL p.d.ptd 2 = p.g.N := rfl
  simp only [lpPt, map_decQ, map_decT, Int.toNat_natCast, List.length_map, e]
set_option maxHeartbeats 400000 in
theorem loopMp10_0_0 : LoopMeets Try.prog F (R Lp10_0_0.key) Lp10_0_0 lbp10_0_0 := by
  refine loop_meets (pre := R) mixed (sgAt_all (P := Try.prog) (pre := R) (Φ := F) (l := sgp10_0) (fcm ⟨m21, fcm ⟨m22, fcm ⟨m23, (fun _ h => nomatch h)⟩⟩⟩)) (loops_n 1 lkp10_0_0 fun k hk => match k, hk with | 0, _ => by rw [lip10_0_0_0]; exact loop_this lfp10_0_1 loopMp10_0_1) Lp10_0_0 (fun ρ => ((ρ.getD 4 default).int - (ρ.getD 5 default).int).toNat) lep10_0_0 fun ρ _ hq => ?_
  obtain ⟨c, x, y, l, j, p, M, K, rfl, hj, h64, hsm, hx, hy, hl, hM, hK⟩ : prPt ρ := hq
  obtain ⟨⟨f1, f2, f3, f4⟩, hB⟩ := hsm
  have hlp := lpPt_eq c x y l (.i 0) j p M K
  by_cases hlt : j < l.length
  · have hd : l.drop j = l.getD j (0, z4) :: l.drop (j + 1) := drop_at (0, z4) l hlt
    obtain ⟨ht1, ht2, ht3⟩ := hl _ (getD_mem (0, z4) hlt)
    have hsx : sm x := by unfold sm; omega
    have hsy : sm y := by unfold sm; omega
    have hb := shEq (l.getD j (0, z4)).2 x y ht1 hsx hsy
    have hown : ownCP [p.d, .i c] := ⟨p, c, rfl, f1, f2, f3, f4⟩
    have hownl : (ownL p.g.N c).length ≤ p.g.N.length := pick_len _ _
    have hblk : blkCP [p.d, .l ((ownL p.g.N c).map encN)] := ⟨p, _, rfl, by omega, own_lt (by omega)⟩
    have hbb : smQ (blkB p.B (ownL p.g.N c)) := smQ_of (uni_ok _)
    rw [hd, putTs_cons] at hlp
    generalize htt : l.getD j (0, z4) = t at *
    obtain ⟨k, q⟩ := t
    have ht1' : smQ q := ht1
    unfold smQ at ht1'
    simp (disch := omega) only [rtp10_0_0, VT.ok, Nd.holds, X.outs, X.ds, X.d, Op1.ev, Op2.ev, takeD_zero, takeD_cons, List.cons_append, List.nil_append, List.getD_cons_zero, List.getD_cons_succ, D.int_i, D.bool_b, D.lst_l, Int.toNat_natCast, List.length_map, implies_true, true_and, takeD1_0, F21, R21, F22, R22, F23, R23, F12050, R12050, ↓reduceIte, dle_t, dlt_t, w64', rowTz, htt, encT, encQ, hb]
    by_cases hk : 0 ≤ k
    · have hkc : k.toNat < K.length := by have : k < (p.g.C.length : Int) := ht3; omega
      have hkc2 : k < (K.length : Int) := by have : k < (p.g.C.length : Int) := ht3; omega
      rw [if_pos (decide_eq_true hk)]
      simp (disch := omega) only [rowQz, encQ, splQ0, setQ]
      refine round_step [.i c, .i x, .i y, .l (l.map encT), .i (l.length : Int), .i ((j + 1 : Nat) : Int), .l (p.B.map encQ), p.d, .l (M.map encQ), .l ((K.set k.toNat (shQ q x y)).map encQ)] rfl ⟨c, x, y, l, j + 1, p, M, _, rfl, by omega, h64, ⟨⟨f1, f2, f3, f4⟩, hB⟩, hx, hy, hl, hM, (List.length_set ..).trans hK⟩ ?_ ?_
      · show ((l.length : Int) - ((j + 1 : Nat) : Int)).toNat < ((l.length : Int) - (j : Int)).toNat
        omega
      · have e1 := lpPt_eq c x y l (.i 0) (j + 1) p M (K.set k.toNat (shQ q x y))
        have e2 : putT p.B (ownL p.g.N c) x y (M, K) (k, q) = (M, K.set k.toNat (shQ q x y)) := by rw [putT, if_pos hk]
        rw [e2] at hlp
        rw [show F Lp10_0_0.key = lpPt from rfl]
        exact e1.trans hlp.symm
    · rw [if_neg (by rw [decide_eq_false hk]; decide)]
      have hin : lpPn [.l ((ownL p.g.N c).map encN), .i (((ownL p.g.N c).map encN).length : Int), .i 0, .l (p.B.map encQ), .l (M.map encQ), .i (shQ q x y).1, .i (shQ q x y).2.1, .i (shQ q x y).2.2.1, .i (shQ q x y).2.2.2, .i (blkB p.B (ownL p.g.N c)).1, .i (blkB p.B (ownL p.g.N c)).2.1, .i (blkB p.B (ownL p.g.N c)).2.2.1, .i (blkB p.B (ownL p.g.N c)).2.2.2] = [.i 0, .i (((ownL p.g.N c).map encN).length : Int), .l ((putN p.B (ownL p.g.N c) ((shQ q x y).1 - (blkB p.B (ownL p.g.N c)).1) ((shQ q x y).2.1 - (blkB p.B (ownL p.g.N c)).2.1) M).map encQ)] := by
        simp only [lpPn, map_decN, map_decQ, Int.toNat_zero, List.drop_zero]
      have hpn : prPn [.l ((ownL p.g.N c).map encN), .i (((ownL p.g.N c).map encN).length : Int), .i 0, .l (p.B.map encQ), .l (M.map encQ), .i (shQ q x y).1, .i (shQ q x y).2.1, .i (shQ q x y).2.2.1, .i (shQ q x y).2.2.2, .i (blkB p.B (ownL p.g.N c)).1, .i (blkB p.B (ownL p.g.N c)).2.1, .i (blkB p.B (ownL p.g.N c)).2.2.1, .i (blkB p.B (ownL p.g.N c)).2.2.2] :=
        ⟨ownL p.g.N c, 0, p.B, M, shQ q x y, blkB p.B (ownL p.g.N c), by rw [List.length_map]; rfl, by omega, by omega, own_lt (by omega), by omega, hB, by unfold shQ; simp only; omega, hbb⟩
      rw [List.length_map] at hin hpn
      simp only [takeD_zero, takeD_cons, List.cons_append, List.nil_append, List.getD_cons_zero, List.getD_cons_succ, D.lst_l, List.length_map, ownC_eq, blkC_eq, List.length_map, hin]
      refine ⟨fun _ => hown, fun _ => hblk, fun _ => hpn, ?_⟩
      refine round_step [.i c, .i x, .i y, .l (l.map encT), .i (l.length : Int), .i ((j + 1 : Nat) : Int), .l (p.B.map encQ), p.d, .l ((putN p.B (ownL p.g.N c) ((shQ q x y).1 - (blkB p.B (ownL p.g.N c)).1) ((shQ q x y).2.1 - (blkB p.B (ownL p.g.N c)).2.1) M).map encQ), .l (K.map encQ)] rfl ⟨c, x, y, l, j + 1, p, _, K, rfl, by omega, h64, ⟨⟨f1, f2, f3, f4⟩, hB⟩, hx, hy, hl, (putN_len ..).trans hM, hK⟩ ?_ ?_
      · show ((l.length : Int) - ((j + 1 : Nat) : Int)).toNat < ((l.length : Int) - (j : Int)).toNat
        omega
      · have e1 := lpPt_eq c x y l (.i 0) (j + 1) p (putN p.B (ownL p.g.N c) ((shQ q x y).1 - (blkB p.B (ownL p.g.N c)).1) ((shQ q x y).2.1 - (blkB p.B (ownL p.g.N c)).2.1) M) K
        have e2 : putT p.B (ownL p.g.N c) x y (M, K) (k, q) = (putN p.B (ownL p.g.N c) ((shQ q x y).1 - (blkB p.B (ownL p.g.N c)).1) ((shQ q x y).2.1 - (blkB p.B (ownL p.g.N c)).2.1) M, K) := by rw [putT, if_neg hk]
        rw [e2] at hlp
        rw [show F Lp10_0_0.key = lpPt from rfl]
        exact e1.trans hlp.symm
  · have hj : j = l.length := by omega
    subst hj
    simp (disch := omega) only [rtp10_0_0, VT.ok, X.ds, X.d, Op2.ev, List.getD_cons_zero, List.getD_cons_succ, D.int_i, D.bool_b, Bool.false_eq_true, ↓reduceIte, dlt_f]
    refine round_exit (by omega) ?_
    rw [show F Lp10_0_0.key = lpPt from rfl]
    refine hlp.trans ?_
    rw [List.drop_length]
    rfl
theorem pcPu_eq (c x y : Int) (l : List Tp) (p : Pn) (M K : List Bx) : pcPu [.l (p.B.map encQ), p.d, .l (M.map encQ), .l (K.map encQ), .i c, .l (l.map encT), .i x, .i y] = [.i 0, .l ((putTs p.B (ownL p.g.N c) x y l (M, K)).1.map encQ), .l ((putTs p.B (ownL p.g.N c) x y l (M, K)).2.map encQ)] := by
  have e : cL p.d.ptd 2 = p.g.N := rfl
  simp only [pcPu, map_decQ, map_decT, e]
theorem mp10_0 : ProcMeets Try.prog 20 Sp10_20 P10_0 4 (R P10_0.key) (F P10_0.key) := by
  refine proc_meets mixed (sgAt_all (P := Try.prog) (pre := R) (Φ := F) (l := sgp10_0) (fcm ⟨m21, fcm ⟨m22, fcm ⟨m23, (fun _ h => nomatch h)⟩⟩⟩)) Try.func20 bp10_0 np10_0 (loops_n 2 kp10_0 fun k hk => match k, hk with | 0, _ => loop_this lfp10_0_0 loopMp10_0_0 | 1, _ => loop_this lfp10_0_1 loopMp10_0_1) pe10_0 pp10_0 pl10_0 (by decide) fun ρ _ hq => ?_
  obtain ⟨c, x, y, l, p, M, K, rfl, h64, hsm, hx, hy, hl, hM, hK⟩ : prPu ρ := hq
  have hpre : prPt [.i c, .i x, .i y, .l (l.map encT), .i (l.length : Int), .i 0, .l (p.B.map encQ), p.d, .l (M.map encQ), .l (K.map encQ)] := ⟨c, x, y, l, 0, p, M, K, rfl, by omega, h64, hsm, hx, hy, hl, hM, hK⟩
  have hlp := lpPt_eq c x y l (.i 0) 0 p M K
  rw [List.drop_zero] at hlp
  have hlp' : lpPt [.i c, .i x, .i y, .l (l.map encT), .i (l.length : Int), .i 0, .l (p.B.map encQ), p.d, .l (M.map encQ), .l (K.map encQ)] = _ := hlp
  simp only [pv10_0, VT.ok, Nd.holds, X.outs, X.ds, X.d, Op1.ev, takeD_zero, takeD_cons, List.cons_append, List.nil_append, List.getD_cons_zero, List.getD_cons_succ, D.bool_b, D.lst_l, List.length_map, F12051, R12051, hlp']
  exact ⟨fun _ => hpre, (pcPu_eq c x y l p M K).symm⟩
end Go.Proofs.Ytindllmeeckfcaa.rv
namespace Go.Proofs.Ytindllmeeckfcaa.rv
set_option maxRecDepth 10000
open Go.RV
theorem valid_parts {g : Gd} (h : validE g = 0) : (g.N.length ≤ 64 ∧ g.E.length ≤ 256 ∧ g.C.length ≤ 16) ∧ isName g.nm = true ∧ (∀ k, k < g.N.length → nodeE g.N g.C k = 0) ∧ (∀ k, k < g.C.length → cluE g.N g.C k = 0) ∧ ∀ k, k < g.E.length → edgeE g.N (el g.E k) = 0 := by
  unfold validE at h
  split at h
  · omega
  · split at h
    · split at h
      · rename_i h0 h1 h2
        split at h
        · rename_i h3
          exact ⟨by omega, h1, fe_ok.1 h2, fe_ok.1 h3, fe_ok.1 h⟩
        · omega
      · omega
    · omega
theorem node_cl {N C : List (List D)} {i : Nat} (h : nodeE N C i = 0) : -1 ≤ cI (el N i) 4 ∧ cI (el N i) 4 < C.length := by
  unfold nodeE at h
  split at h
  · split at h
    · omega
    · split at h
      · split at h
        · rename_i h1
          simp only [Bool.and_eq_true, Bool.not_eq_true', decide_eq_false_iff_not] at h1
          omega
        · omega
      · omega
  · omega
theorem valid_okV {g : Gd} (h : validE g = 0) : okV g := by
  obtain ⟨⟨h1, _, h3⟩, _, h4, h5, _⟩ := valid_parts h
  exact ⟨h1, h3, okC_of h5, fun v hv => node_cl (h4 v hv)⟩
theorem okV_at {g : Gd} (h : okV g) {c : Int} (h0 : -1 ≤ c) (h1 : c < g.C.length) : atC g.C c := ⟨h0, h1, h.2.1, h.2.2.1.mono (by omega)⟩
theorem fits_get : ∀ {cts : List CT} {x : List D}, FitsF cts x → ∀ {j : Nat} {ct : CT}, cts[j]? = some ct → Wf ct (x.getD j default)
  | [], [], _, j, ct, hj => by simp at hj
  | c :: cts, d :: ds, ⟨h, h'⟩, 0, ct, hj => by simp at hj; subst hj; exact h
  | c :: cts, d :: ds, ⟨h, h'⟩, j + 1, ct, hj => by simpa using fits_get h' (j := j) (by simpa using hj)
  | [], _ :: _, h, _, _, _ => h.elim
  | _ :: _, [], h, _, _, _ => h.elim
theorem row_i {N : List (List D)} {cts : List CT} (h : ∀ x ∈ N, FitsF cts x) {j : Nat} (hj : cts[j]? = some (.int .i64)) {i : Nat} (hi : i < N.length) : (el N i).getD j default = .i (cI (el N i) j) := by
  obtain ⟨z, e, _⟩ := wf_i64 (fits_get (h _ (getD_mem [] hi)) hj)
  simp only [cI]
  rw [e]; rfl
theorem any_map (l : List Int) (c : Int) : anyN (fun j => c == cI (el (l.map encI) j) 0) l.length = l.contains c := by
  rw [Bool.eq_iff_iff, anyN_iff, List.contains_iff_mem]
  have e : ∀ j, j < l.length → cI (el (l.map encI) j) 0 = l.getD j 0 := fun j hj => by
    simp only [cI, el]
    rw [rowI hj]; rfl
  constructor
  · rintro ⟨j, hj, h⟩
    rw [e j hj] at h
    have : c = l.getD j 0 := by simpa using h
    rw [this]
    exact getD_mem 0 hj
  · intro h
    obtain ⟨j, hj, rfl⟩ := List.mem_iff_getElem.1 h
    exact ⟨j, hj, by rw [e j hj]; simp [List.getD, hj]⟩
theorem loopM60_0 : LoopMeets Try.prog F (R L60_0.key) L60_0 lb60_0 := by
  refine loop_meets (pre := R) mixed (sgAt_all (P := Try.prog) (pre := R) (Φ := F) (l := sg60) (fcm ⟨m26, fcm ⟨m89, fcm ⟨m61, (fun _ h => nomatch h)⟩⟩⟩)) (loops_n 0 lk60_0 fun k hk => by omega) L60_0 (fun ρ => ((ρ.getD 2 default).int - (ρ.getD 3 default).int).toNat) le60_0 fun ρ _ hq => ?_
  obtain ⟨c, g, j, acc, rfl, hj, hv, hc, ha⟩ : prMem ρ := hq
  have h64 := hv.1
  by_cases hlt : j < g.N.length
  · have hb := hv.2.2.2 j hlt
    have hat := okV_at hv hb.1 hb.2
    have hN : ∀ xs, xs = inR g.N g.C c j → RoundOk F (R L60_0.key) (fun ρ => ((ρ.getD 2 default).int - (ρ.getD 3 default).int).toNat) L60_0 [.i c, .l g.N, .i (g.N.length : Int), .i (j : Int), .s g.nm, .b g.dr, .l g.N, .l g.E, .l g.C, .l acc] [.i (-1), .i ((j + 1 : Nat) : Int), .l (acc ++ xs)] := by
      rintro xs rfl
      have hl : (inR g.N g.C c j).length ≤ 1 := by unfold inR; split <;> simp
      refine round_next ⟨⟨c, g, j + 1, _, rfl, by omega, hv, hc, by rw [List.length_append]; omega⟩, ?_, ?_⟩
      · show ((g.N.length : Int) - ((j + 1 : Nat) : Int)).toNat < ((g.N.length : Int) - (j : Int)).toNat
        omega
      · show lpMem [.i c, .l g.N, .i (g.N.length : Int), .i ((j + 1 : Nat) : Int), .s g.nm, .b g.dr, .l g.N, .l g.E, .l g.C, .l (acc ++ inR g.N g.C c j)] = lpMem [.i c, .l g.N, .i (g.N.length : Int), .i (j : Int), .s g.nm, .b g.dr, .l g.N, .l g.E, .l g.C, .l acc]
        simp only [lpMem, Int.toNat_natCast]
        rw [coll_next (f := inR g.N g.C c) hlt acc]
    simp (disch := omega) only [rt60_0, VT.ok, Nd.holds, X.outs, X.ds, X.d, Op1.ev, Op2.ev, takeD_zero, takeD_cons, List.cons_append, List.nil_append, List.getD_cons_zero, List.getD_cons_succ, D.int_i, D.bool_b, D.lst_l, ite_b, ite_or, Int.toNat_natCast, List.length_map, implies_true, true_and, F89, R89, F61, R61, ↓reduceIte, dle_t, dlt_t, w64', aroundD, ciFn, cL, cI, List.length_append, List.length_cons, List.length_nil]
    refine ⟨fun _ => hat, ?_⟩
    show if (decide (c < 0) || anyN (fun k => c == cI (el ((around g.C (cI (el g.N j) 4)).map encI) k) 0) (around g.C (cI (el g.N j) 4)).length) = true then _ else _
    rw [any_map]
    cases h : (decide (c < 0) || (around g.C (cI (el g.N j) 4)).contains c)
    · simp only [Bool.false_eq_true, if_false]
      have := hN [] (by rw [inR, inN, h]; rfl)
      rw [List.append_nil] at this
      exact this
    · simp only [if_true]
      exact hN [[.i (j : Int)]] (by rw [inR, inN, h]; rfl)
  · have hj' : j = g.N.length := by omega
    subst hj'
    simp (disch := omega) only [rt60_0, VT.ok, X.ds, X.d, Op2.ev, List.getD_cons_zero, List.getD_cons_succ, D.int_i, D.bool_b, Bool.false_eq_true, ↓reduceIte, dlt_f]
    refine round_exit (by omega) ?_
    show lpMem [.i c, .l g.N, .i (g.N.length : Int), .i (g.N.length : Int), .s g.nm, .b g.dr, .l g.N, .l g.E, .l g.C, .l acc] = _
    simp only [lpMem, Int.toNat_natCast, coll_end]
theorem valid_c {g : Gd} {c : Int} (h : ¬ (validE g = 0 ∧ -1 ≤ c ∧ c < g.C.length)) : ((!(validE g == 0) || decide (c < -1)) || decide ((g.C.length : Int) ≤ c)) = true := by
  simp only [Bool.or_eq_true, Bool.not_eq_true', beq_eq_false_iff_ne, decide_eq_true_eq]
  omega
theorem valid_c' {g : Gd} {c : Int} (h : validE g = 0 ∧ -1 ≤ c ∧ c < g.C.length) : ((!(validE g == 0) || decide (c < -1)) || decide ((g.C.length : Int) ≤ c)) = false := by
  simp only [Bool.or_eq_false_iff, Bool.not_eq_false', beq_iff_eq, decide_eq_false_iff_not]
  omega
theorem gOf_eq (g : Gd) (l : List D) : gOf (.s g.nm :: .b g.dr :: .l g.N :: .l g.E :: .l g.C :: l) = g := rfl
theorem m60 : Meets Try.prog 60 S60 (R 60) (F 60) := by
  refine meets_of_vt (pre := R) (Φ := F) mixed (sgAt_all (P := Try.prog) (pre := R) (Φ := F) (l := sg60) (fcm ⟨m26, fcm ⟨m89, fcm ⟨m61, (fun _ h => nomatch h)⟩⟩⟩)) Try.func60 b60 n60 (loops_n 1 k60 fun k hk => match k, hk with | 0, _ => loop_this lf60_0 loopM60_0) e60 fun ds hf hq => ?_
  obtain ⟨g, ds', rfl, h5, _⟩ := fitsG hf.flat
  obtain ⟨x, rfl, hx⟩ := fits1 h5
  obtain ⟨c, rfl, _⟩ := wf_i64 hx
  by_cases h : validE g = 0 ∧ -1 ≤ c ∧ c < g.C.length
  · have hpre : prMem [.i c, .l g.N, .i (g.N.length : Int), .i 0, .s g.nm, .b g.dr, .l g.N, .l g.E, .l g.C, .l []] := ⟨c, g, 0, [], rfl, by omega, valid_okV h.1, h.2.1, by simp⟩
    simp only [vt60, VT.ok, Nd.holds, X.outs, X.ds, X.d, Op1.ev, Op2.ev, takeD_zero, takeD_cons, List.cons_append, List.nil_append, List.getD_cons_zero, List.getD_cons_succ, D.int_i, D.bool_b, D.lst_l, ite_b, ite_or, Bool.false_eq_true, if_false, implies_true, true_and, and_true, F26, R26, F16000, R16000, F60, validD, gOf_eq, valid_c' h, memD, memR, if_pos h, cI, lpMem, Int.toNat_zero, mems]
    exact fun _ => hpre
  · simp only [vt60, VT.ok, Nd.holds, X.outs, X.ds, X.d, Op1.ev, Op2.ev, takeD_zero, takeD_cons, List.cons_append, List.nil_append, List.getD_cons_zero, List.getD_cons_succ, D.int_i, D.bool_b, D.lst_l, ite_b, ite_or, if_true, implies_true, and_true, F26, R26, F16000, R16000, F60, validD, gOf_eq, valid_c h, memD, memR, if_neg h, cI]
end Go.Proofs.Ytindllmeeckfcaa.rv
namespace Go.Proofs.Ytindllmeeckfcaa.rv
set_option maxRecDepth 10000
open Go.RV
theorem rowTsz {T : List (List Tp)} {i : Nat} (h : i < T.length) : (T.map encTs).getD i [] = encTs (T.getD i []) := row_get [] h
theorem lpP0_eq (p : Pn) (j : Nat) (M K : List Bx) : lpP0 [.i (p.g.C.length : Int), .i (j : Int), .i p.o.md, .i p.o.ns, .i p.o.rs, .i p.o.m, .i p.o.rd, .l (p.B.map encQ), p.d, .l (M.map encQ), .l (K.map encQ)] =
    [.i 0, .i (p.g.C.length : Int), .l ((putF (arP p) p.T j (M, K)).1.map encQ), .l ((putF (arP p) p.T j (M, K)).2.map encQ)] := by
  simp only [lpP0, pnOf_d, map_decQ, Int.toNat_natCast]
theorem putF_next {a : Ar} {T : List (List Tp)} {j : Nat} {s : Pl} (h : j < a.C.length) : putF a T j s = putF a T (j + 1) (putC a T s j) := fold_next h
theorem putF_end {a : Ar} {T : List (List Tp)} {s : Pl} : putF a T a.C.length s = s := fold_end
theorem getD_memT {T : List (List Tp)} {i : Nat} (h : i < T.length) : T.getD i [] ∈ T := getD_mem [] h
theorem prPu_mk (c x y : Int) (p : Pn) (T : List (List Tp)) (i : Nat) (M K : List Bx) (hi : i < T.length) (hT : ∀ l ∈ T, okTs p.g.C.length l ∧ l.length ≤ 64) (hs : p.small) (hx : -1073741824000 ≤ x ∧ x ≤ 1073741824000) (hy : -1073741824000 ≤ y ∧ y ≤ 1073741824000) (hM : M.length = p.g.N.length) (hK : K.length = p.g.C.length) :
    prPu [.l (p.B.map encQ), p.d, .l (M.map encQ), .l (K.map encQ), .i c, .l ((T.getD i []).map encT), .i x, .i y] :=
  ⟨c, x, y, T.getD i [], p, M, K, rfl, (hT _ (getD_memT hi)).2, hs, hx, hy, (hT _ (getD_memT hi)).1, hM, hK⟩
theorem prP0_mk (p : Pn) (j : Nat) (M K : List Bx) (hj : j ≤ p.g.C.length) (hp : p.good) (hM : M.length = p.g.N.length) (hK : K.length = p.g.C.length) (hn : near ((j + 1 : Nat) * 2147483648) K) :
    prP0 [.i (p.g.C.length : Int), .i (j : Int), .i p.o.md, .i p.o.ns, .i p.o.rs, .i p.o.m, .i p.o.rd, .l (p.B.map encQ), p.d, .l (M.map encQ), .l (K.map encQ)] := ⟨p, j, M, K, rfl, hj, hp, hM, hK, hn⟩
theorem loopM10_0 : LoopMeets Try.prog F (R L10_0.key) L10_0 lb10_0 := by
  refine loop_meets (pre := R) mixed (sgAt_all (P := Try.prog) (pre := R) (Φ := F) (l := sg10) (fcm ⟨m19, fcm ⟨m25, List.forall_mem_cons.2 ⟨ProcMeets.at1 mp10_0, List.forall_mem_cons.2 ⟨MeetsAt.name, (fun _ h => nomatch h)⟩⟩⟩⟩)) (loops_n 0 lk10_0 fun k hk => by omega) L10_0 (fun ρ => ((ρ.getD 0 default).int - (ρ.getD 1 default).int).toNat) le10_0 fun ρ _ hq => ?_
  obtain ⟨p, j, M, K, rfl, hj, hp, hM, hK, hn⟩ : prP0 ρ := hq
  have hp' := hp
  obtain ⟨hs, ho, hT, hTl⟩ := hp'
  have hs' := hs
  obtain ⟨⟨f1, f2, f3, f4⟩, hB⟩ := hs'
  have hom := (Od.ok_iff.1 ho).2.2.2.1
  have hlp := lpP0_eq p j M K
  by_cases hlt : j < p.g.C.length
  · have hnear := near_at hn (c := j) (by omega)
    have w1 : IntKind.i64.wrap ((K.getD j z4).1 + p.o.m) = (K.getD j z4).1 + p.o.m := w64 (by omega)
    have w2 : IntKind.i64.wrap ((K.getD j z4).2.1 + p.o.m) = (K.getD j z4).2.1 + p.o.m := w64 (by omega)
    have hpu := prPu_mk (j : Int) ((K.getD j z4).1 + p.o.m) ((K.getD j z4).2.1 + p.o.m) p p.T j M K (by omega) hTl hs (by omega) (by omega) hM hK
    have hpc := pcPu_eq (j : Int) ((K.getD j z4).1 + p.o.m) ((K.getD j z4).2.1 + p.o.m) (p.T.getD j []) p M K
    have hput : putTs p.B (ownL p.g.N (j : Int)) ((K.getD j z4).1 + p.o.m) ((K.getD j z4).2.1 + p.o.m) (p.T.getD j []) (M, K) = putC (arP p) p.T (M, K) j := rfl
    have hlen := pTs_len p.B (ownL p.g.N (j : Int)) ((K.getD j z4).1 + p.o.m) ((K.getD j z4).2.1 + p.o.m) (p.T.getD j []) (M, K)
    have hnr := near_put (n := (j + 1 : Nat) * 2147483648 + 1048576) (m := (j + 1 + 1 : Nat) * 2147483648) (B := p.B) (own := ownL p.g.N (j : Int)) (x := (K.getD j z4).1 + p.o.m) (y := (K.getD j z4).2.1 + p.o.m) (by omega) (by omega) (by omega) (p.T.getD j []) (M, K) (fun t ht => ((hTl _ (getD_memT (by omega))).1 t ht).1) (nearK_mono (by omega) hn)
    rw [hput] at hpc hlen hnr
    rw [putF_next (a := arP p) hlt] at hlp
    have e11 : p.d.ptd.getD 11 default = .l (p.T.map encTs) := rfl
    simp (disch := omega) only [rt10_0, VT.ok, Nd.holds, X.outs, X.ds, X.d, Op1.ev, Op2.ev, takeD_zero, takeD_cons, List.cons_append, List.nil_append, List.getD_cons_zero, List.getD_cons_succ, D.int_i, D.bool_b, D.lst_l, Int.toNat_natCast, List.length_map, implies_true, true_and, F17020000, R17020000, ↓reduceIte, dle_t, dlt_t, w64', e11, List.length_map, rowTsz, rowQz, encTs, encQ, w1, w2, hpc]
    refine ⟨fun _ => rfl, fun _ => hpu, ?_⟩
    refine round_step [.i (p.g.C.length : Int), .i ((j + 1 : Nat) : Int), .i p.o.md, .i p.o.ns, .i p.o.rs, .i p.o.m, .i p.o.rd, .l (p.B.map encQ), p.d, .l ((putC (arP p) p.T (M, K) j).1.map encQ), .l ((putC (arP p) p.T (M, K) j).2.map encQ)] rfl (prP0_mk p (j + 1) _ _ (by omega) hp (hlen.1.trans hM) (hlen.2.trans hK) hnr) ?_ ?_
    · show ((p.g.C.length : Int) - ((j + 1 : Nat) : Int)).toNat < ((p.g.C.length : Int) - (j : Int)).toNat
      omega
    · have e1 := lpP0_eq p (j + 1) (putC (arP p) p.T (M, K) j).1 (putC (arP p) p.T (M, K) j).2
      rw [show F L10_0.key = lpP0 from rfl]
      exact e1.trans hlp.symm
  · have hj : j = p.g.C.length := by omega
    subst hj
    simp (disch := omega) only [rt10_0, VT.ok, X.ds, X.d, Op2.ev, List.getD_cons_zero, List.getD_cons_succ, D.int_i, D.bool_b, Bool.false_eq_true, ↓reduceIte, dlt_f]
    refine round_exit (by omega) ?_
    rw [show F L10_0.key = lpP0 from rfl]
    refine hlp.trans ?_
    rw [show p.g.C.length = (arP p).C.length from rfl, putF_end]
theorem placeD_eq (g : Gd) (o : Od) (B : List Bx) : placeD [.s g.nm, .b g.dr, .l g.N, .l g.E, .l g.C, .i o.md, .i o.ns, .i o.rs, .i o.m, .i o.rd, .l (B.map encQ)] = [.l ((placeR g o B).1.1.map encQ), .l ((placeR g o B).1.2.map encQ), .i (placeR g o B).2] := by
  show (let r := placeR g o ((B.map encQ).map decQ); [D.l (r.1.1.map encQ), .l (r.1.2.map encQ), .i r.2]) = _
  rw [map_decQ]
theorem rep_Q (n : Nat) : List.replicate n [D.i 0, .i 0, .i 0, .i 0] = (List.replicate n z4).map encQ := by
  rw [List.map_replicate]; rfl
theorem put_len (a : Ar) (T : List (List Tp)) : ∀ (n i : Nat) (s : Pl), a.C.length - i = n → i ≤ a.C.length → (putF a T i s).1.length = s.1.length ∧ (putF a T i s).2.length = s.2.length
  | 0, i, s, hn, hi => by
    rw [show i = a.C.length by omega, putF_end]; exact ⟨rfl, rfl⟩
  | n + 1, i, s, hn, hi => by
    rw [putF_next (by omega)]
    obtain ⟨h1, h2⟩ := put_len a T n (i + 1) (putC a T s i) (by omega) (by omega)
    obtain ⟨h3, h4⟩ := pTs_len a.B (ownL a.N i) ((s.2.getD i z4).1 + a.m) ((s.2.getD i z4).2.1 + a.m) (T.getD i []) s
    exact ⟨h1.trans h3, h2.trans h4⟩
theorem m10 : Meets Try.prog 10 S10 (R 10) (F 10) := by
  refine meets_of_vt (pre := R) (Φ := F) mixed (sgAt_all (P := Try.prog) (pre := R) (Φ := F) (l := sg10) (fcm ⟨m19, fcm ⟨m25, List.forall_mem_cons.2 ⟨ProcMeets.at1 mp10_0, List.forall_mem_cons.2 ⟨MeetsAt.name, (fun _ h => nomatch h)⟩⟩⟩⟩)) Try.func10 b10 n10 (loops_n 1 k10 fun k hk => match k, hk with | 0, _ => loop_this lf10_0 loopM10_0) e10 fun ds hf _ => ?_
  obtain ⟨g, o, B, ds', rfl, h0, hm, _⟩ := fitsGO hf.flat
  obtain rfl := fits0 h0
  simp only [vt10, VT.ok, Nd.holds, X.outs, X.ds, X.d, Op1.ev, Op2.ev, List.cons_append, List.nil_append, List.getD_cons_zero, List.getD_cons_succ, D.int_i, D.bool_b, D.lst_l, Int.toNat_natCast, implies_true, true_and, F25, R25, F19, R19, F17020000, R17020000, F11000, R11000, F10, planD_eq, placeD_eq]
  by_cases h : inE g o B = 0
  · obtain ⟨h1, h2, h3, h4, h5⟩ := inE_ok h
    obtain ⟨v1, v2⟩ := valid_len h1
    rw [if_pos h]
    cases ha : (arOf g o B).all with
    | none =>
      have hr : placeR g o B = (([], []), 2) := by rw [placeR, if_pos h, ha]
      rw [hr]; rfl
    | some r =>
      obtain ⟨S, T⟩ := r
      have hd := all_done (a := arOf g o B) (valid_okV h1).2.2.1 ha
      have hsl : S.length = g.C.length := hd.sl
      have htl : T.length = g.C.length + 1 := hd.tl
      have hTl : ∀ l ∈ T, okTs g.C.length l ∧ l.length ≤ 64 := hd.okT
      have hbB : ∀ b ∈ B, smQ b := fun b hb => smQ_of (badB_ok h4 b hb)
      generalize hpp : Pn.mk g o B T S = p
      have pg : p.g = g := by rw [← hpp]
      have po : p.o = o := by rw [← hpp]
      have pB : p.B = B := by rw [← hpp]
      have pT : p.T = T := by rw [← hpp]
      have pS : p.S = S := by rw [← hpp]
      have ha' : arP p = arOf g o B := by rw [← hpp]; rfl
      subst pg po pB pT pS
      have hs : p.small := ⟨⟨v1, v2, h3, hsl⟩, hbB⟩
      have hgood : p.good := ⟨hs, h2, htl, hTl⟩
      have hpu := prPu_mk (-1) 0 0 p p.T p.g.C.length (List.replicate p.g.N.length z4) (List.replicate p.g.C.length z4) (by omega) hTl hs (by omega) (by omega) List.length_replicate List.length_replicate
      have hpc := pcPu_eq (-1) 0 0 (p.T.getD p.g.C.length []) p (List.replicate p.g.N.length z4) (List.replicate p.g.C.length z4)
      have hput : putTs p.B (ownL p.g.N (-1)) 0 0 (p.T.getD p.g.C.length []) (List.replicate p.g.N.length z4, List.replicate p.g.C.length z4) = put0 (arP p) p.T := rfl
      have hlen := pTs_len p.B (ownL p.g.N (-1)) 0 0 (p.T.getD p.g.C.length []) (List.replicate p.g.N.length z4, List.replicate p.g.C.length z4)
      have hnr := near_put (n := 0) (m := (0 + 1 : Nat) * 2147483648) (B := p.B) (own := ownL p.g.N (-1)) (x := 0) (y := 0) (by omega) (by omega) (by omega) (p.T.getD p.g.C.length []) (List.replicate p.g.N.length z4, List.replicate p.g.C.length z4) (fun t ht => ((hTl _ (getD_memT (by omega))).1 t ht).1) (near_z _ (by omega))
      rw [hput] at hpc hlen hnr
      have hl1 : (put0 (arP p) p.T).1.length = p.g.N.length := hlen.1.trans List.length_replicate
      have hl2 : (put0 (arP p) p.T).2.length = p.g.C.length := hlen.2.trans List.length_replicate
      have hpP := prP0_mk p 0 (put0 (arP p) p.T).1 (put0 (arP p) p.T).2 (by omega) hgood hl1 hl2 hnr
      have hlP := lpP0_eq p 0 (put0 (arP p) p.T).1 (put0 (arP p) p.T).2
      have hFF : putF (arP p) p.T 0 ((put0 (arP p) p.T).1, (put0 (arP p) p.T).2) = put (arP p) p.T := rfl
      rw [hFF] at hlP
      have hr : placeR p.g p.o p.B = if (badL (put (arP p) p.T).1 || badL (put (arP p) p.T).2) = true then (([], []), 2) else (put (arP p) p.T, 0) := by rw [placeR, if_pos h, ha, ← ha']
      obtain ⟨c1, c2⟩ := cfBad (.inl rfl : 24 = 24 ∨ 24 = 27) (put (arP p) p.T).1
      obtain ⟨c3, c4⟩ := cfBad (.inl rfl : 24 = 24 ∨ 24 = 27) (put (arP p) p.T).2
      have e11 : p.d.ptd.getD 11 default = .l (p.T.map encTs) := rfl
      have epd : (Pn.mk p.g p.o p.B p.T p.S).d = p.d := rfl
      have hlP' : lpP0 [.i (p.g.C.length : Int), .i 0, .i p.o.md, .i p.o.ns, .i p.o.rs, .i p.o.m, .i p.o.rd, .l (p.B.map encQ), p.d, .l ((put0 (arP p) p.T).1.map encQ), .l ((put0 (arP p) p.T).2.map encQ)] = _ := hlP
      rw [hr]
      simp (disch := omega) only [takeD_zero, takeD_cons, List.cons_append, List.nil_append, List.getD_cons_zero, List.getD_cons_succ, D.int_i, D.bool_b, D.lst_l, ite_b, ite_or, List.length_map, Bool.false_eq_true, implies_true, true_and, ↓reduceIte, dle_t, dlt_t, beq_t, epd, e11, rep_Q, List.length_map, List.length_replicate, rowTsz, encTs, hpc, hl2, hlP', c2, c4, Bool.not_true]
      refine ⟨fun _ => rfl, fun _ => hpu, fun _ => hpP, fun _ => c1, fun _ => c3, ?_⟩
      cases badL (put (arP p) p.T).1
      · cases badL (put (arP p) p.T).2
        · rfl
        · rfl
      · rfl
  · have hb : (!(inE g o B == 0)) = true := by simp [h]
    have hr : placeR g o B = (([], []), inE g o B) := by rw [placeR, if_neg h]
    rw [if_neg h, hr]
    simp only [takeD_zero, takeD_cons, List.cons_append, List.nil_append, List.getD_cons_zero, List.getD_cons_succ, D.int_i, if_true, hb, if_true]
    rfl
end Go.Proofs.Ytindllmeeckfcaa.rv
namespace Go.Proofs.Ytindllmeeckfcaa.rv
set_option maxRecDepth 10000
open Go.RV
theorem mvEq (q : Bx) (x y : Int) (h : smQ q) (hx : sm x) (hy : sm y) : fn40 [.i q.1, .i q.2.1, .i q.2.2.1, .i q.2.2.2, .i x, .i y] = [.i (shQ q x y).1, .i (shQ q x y).2.1, .i (shQ q x y).2.2.1, .i (shQ q x y).2.2.2] := fn40_eq q x y h hx hy
theorem lpQn_eq (B : List Bx) (x y : Int) (L : List Bx) (l : List Nat) (j : Nat) (M : List Bx) (r : Bx) (hL : 0 < L.length) : lpQn [.l (B.map encQ), .i x, .i y, .l (L.map encQ), .l (l.map encN), .i (j : Int), .l (M.map encQ), .i r.1, .i r.2.1, .i r.2.2.1, .i r.2.2.2] =
    [.i 0, .i (l.length : Int), .l ((putN B (l.drop j) (x + (L.getD 0 z4).1 - r.1) (y + (L.getD 0 z4).2.1 - r.2.1) M).map encQ)] := by
  have e : el (L.map encQ) 0 = encQ (L.getD 0 z4) := row_get z4 hL
  simp only [lpQn, map_decQ, map_decN, Int.toNat_natCast, List.length_map, e]
  rfl
theorem putN_cons (B : List Bx) (v : Nat) (l : List Nat) (x y : Int) (M : List Bx) : putN B (v :: l) x y M = putN B l x y (M.set v (shQ (B.getD v z4) x y)) := rfl
theorem loopM15_1 : LoopMeets Try.prog F (R L15_1.key) L15_1 lb15_1 := by
  refine loop_meets (pre := R) mixed (sgAt_all (P := Try.prog) (pre := R) (Φ := F) (l := sg15) (fcm ⟨m13, fcm ⟨m34, fcm ⟨m33, fcm ⟨m38, fcm ⟨m39, fcm ⟨m40, fcm ⟨m41, fcm ⟨m36, (fun _ h => nomatch h)⟩⟩⟩⟩⟩⟩⟩⟩)) (loops_n 0 lk15_1 fun k hk => by omega) L15_1 (fun ρ => (((ρ.getD 4 default).lst.length : Int) - (ρ.getD 5 default).int).toNat) le15_1 fun ρ _ hq => ?_
  obtain ⟨B, x, y, L, l, j, M, r, rfl, hj, h64, hl, hM, hB, hx, hy, hr, hL, hLs⟩ : prQn ρ := hq
  have hr' := hr
  unfold smQ at hr'
  have hlp := lpQn_eq B x y L l j M r hL
  have h0 := hLs _ (getD_mem z4 hL)
  unfold smQ at h0
  have w1 : IntKind.i64.wrap (x + (L.getD 0 z4).1) = x + (L.getD 0 z4).1 := w64 (by omega)
  have w2 : IntKind.i64.wrap (y + (L.getD 0 z4).2.1) = y + (L.getD 0 z4).2.1 := w64 (by omega)
  have w3 : IntKind.i64.wrap (x + (L.getD 0 z4).1 - r.1) = x + (L.getD 0 z4).1 - r.1 := w64 (by omega)
  have w4 : IntKind.i64.wrap (y + (L.getD 0 z4).2.1 - r.2.1) = y + (L.getD 0 z4).2.1 - r.2.1 := w64 (by omega)
  have hs1 : sm (x + (L.getD 0 z4).1 - r.1) := by unfold sm; omega
  have hs2 : sm (y + (L.getD 0 z4).2.1 - r.2.1) := by unfold sm; omega
  by_cases hlt : j < l.length
  · have hv : l.getD j 0 < B.length := hl _ (getD_memN hlt)
    have hd : l.drop j = l.getD j 0 :: l.drop (j + 1) := drop_at 0 l hlt
    have hb := mvEq (B.getD (l.getD j 0) z4) _ _ (hB _ (getD_mem z4 hv)) hs1 hs2
    rw [hd, putN_cons] at hlp
    simp (disch := omega) only [rt15_1, VT.ok, Nd.holds, X.outs, X.ds, X.d, Op1.ev, Op2.ev, takeD_zero, takeD_cons, List.cons_append, List.nil_append, List.getD_cons_zero, List.getD_cons_succ, D.int_i, D.bool_b, D.lst_l, Int.toNat_natCast, List.length_map, implies_true, true_and, F40, R40, ↓reduceIte, dle_t, dlt_t, w64', rowNn, encN, rowQz, encQ, Int.toNat_zero, w1, w2, w3, w4, hb, List.length_map, splQ0, setQ]
    refine round_step [.l (B.map encQ), .i x, .i y, .l (L.map encQ), .l (l.map encN), .i ((j + 1 : Nat) : Int), .l ((M.set (l.getD j 0) (shQ (B.getD (l.getD j 0) z4) (x + (L.getD 0 z4).1 - r.1) (y + (L.getD 0 z4).2.1 - r.2.1))).map encQ), .i r.1, .i r.2.1, .i r.2.2.1, .i r.2.2.2] rfl ⟨B, x, y, L, l, j + 1, _, r, rfl, by omega, h64, hl, (List.length_set ..).trans hM, hB, hx, hy, hr, hL, hLs⟩ ?_ ?_
    · show (((l.map encN).length : Int) - ((j + 1 : Nat) : Int)).toNat < (((l.map encN).length : Int) - (j : Int)).toNat
      rw [List.length_map]; omega
    · have e1 := lpQn_eq B x y L l (j + 1) (M.set (l.getD j 0) (shQ (B.getD (l.getD j 0) z4) (x + (L.getD 0 z4).1 - r.1) (y + (L.getD 0 z4).2.1 - r.2.1))) r hL
      rw [show F L15_1.key = lpQn from rfl]
      exact e1.trans hlp.symm
  · have hj : j = l.length := by omega
    subst hj
    simp (disch := omega) only [rt15_1, VT.ok, X.ds, X.d, Op1.ev, Op2.ev, List.getD_cons_zero, List.getD_cons_succ, D.int_i, D.bool_b, D.lst_l, List.length_map, Bool.false_eq_true, ↓reduceIte, dlt_f, List.length_map]
    refine round_exit (by omega) ?_
    rw [show F L15_1.key = lpQn from rfl]
    refine hlp.trans ?_
    rw [List.drop_length]
    rfl
theorem lpQk_eq (x y : Int) (L : List Bx) (a : Nat) (l : List Nat) (j : Nat) (K : List Bx) : lpQk [.i x, .i y, .l (L.map encQ), .i (a : Int), .l (l.map encN), .i (j : Int), .l (K.map encQ)] = [.i 0, .i (l.length : Int), .l ((putK x y ((l.zip (L.drop a)).drop j) K).map encQ)] := by
  simp only [lpQk, map_decQ, map_decN, Int.toNat_natCast, List.length_map]
theorem putK_cons (x y : Int) (t : Nat × Bx) (l : List (Nat × Bx)) (K : List Bx) : putK x y (t :: l) K = putK x y l (K.set t.1 (shQ t.2 x y)) := rfl
theorem zip_at {l : List Nat} {L : List Bx} {j : Nat} (h1 : j < l.length) (h2 : j < L.length) : (l.zip L).drop j = (l.getD j 0, L.getD j z4) :: (l.zip L).drop (j + 1) := by
  have h : j < (l.zip L).length := by rw [List.length_zip]; omega
  rw [List.drop_eq_getElem_cons h]
  simp [List.getD, h1, h2]
theorem loopM15_2 : LoopMeets Try.prog F (R L15_2.key) L15_2 lb15_2 := by
  refine loop_meets (pre := R) mixed (sgAt_all (P := Try.prog) (pre := R) (Φ := F) (l := sg15) (fcm ⟨m13, fcm ⟨m34, fcm ⟨m33, fcm ⟨m38, fcm ⟨m39, fcm ⟨m40, fcm ⟨m41, fcm ⟨m36, (fun _ h => nomatch h)⟩⟩⟩⟩⟩⟩⟩⟩)) (loops_n 0 lk15_2 fun k hk => by omega) L15_2 (fun ρ => (((ρ.getD 4 default).lst.length : Int) - (ρ.getD 5 default).int).toNat) le15_2 fun ρ _ hq => ?_
  obtain ⟨x, y, L, a, l, j, K, rfl, hj, ha, hL, hl, hx, hy, hLs⟩ : prQk ρ := hq
  have hlp := lpQk_eq x y L a l j K
  have hs1 : sm x := by unfold sm; omega
  have hs2 : sm y := by unfold sm; omega
  by_cases hlt : j < l.length
  · have hv : l.getD j 0 < K.length := hl _ (getD_memN hlt)
    have hd : (l.zip (L.drop a)).drop j = (l.getD j 0, (L.drop a).getD j z4) :: (l.zip (L.drop a)).drop (j + 1) := zip_at hlt (by rw [List.length_drop]; omega)
    have he : (L.drop a).getD j z4 = L.getD (a + j) z4 := by simp [List.getD]
    have hb := mvEq (L.getD (a + j) z4) x y (hLs _ (getD_mem z4 (by omega))) hs1 hs2
    rw [hd, putK_cons, he] at hlp
    have haj : ((a : Int) + (j : Int)) = ((a + j : Nat) : Int) := by omega
    simp (disch := omega) only [rt15_2, VT.ok, Nd.holds, X.outs, X.ds, X.d, Op1.ev, Op2.ev, takeD_zero, takeD_cons, List.cons_append, List.nil_append, List.getD_cons_zero, List.getD_cons_succ, D.int_i, D.bool_b, D.lst_l, Int.toNat_natCast, List.length_map, implies_true, true_and, F40, R40, ↓reduceIte, dle_t, dlt_t, w64', haj, Int.toNat_natCast, rowNn, encN, rowQz, encQ, hb, List.length_map, splQ0, setQ]
    refine round_step [.i x, .i y, .l (L.map encQ), .i (a : Int), .l (l.map encN), .i ((j + 1 : Nat) : Int), .l ((K.set (l.getD j 0) (shQ (L.getD (a + j) z4) x y)).map encQ)] rfl ⟨x, y, L, a, l, j + 1, _, rfl, by omega, ha, hL, fun v hv => by rw [List.length_set]; exact hl v hv, hx, hy, hLs⟩ ?_ ?_
    · show (((l.map encN).length : Int) - ((j + 1 : Nat) : Int)).toNat < (((l.map encN).length : Int) - (j : Int)).toNat
      rw [List.length_map]; omega
    · have e1 := lpQk_eq x y L a l (j + 1) (K.set (l.getD j 0) (shQ (L.getD (a + j) z4) x y))
      rw [show F L15_2.key = lpQk from rfl]
      exact e1.trans hlp.symm
  · have hj : j = l.length := by omega
    subst hj
    simp (disch := omega) only [rt15_2, VT.ok, X.ds, X.d, Op1.ev, Op2.ev, List.getD_cons_zero, List.getD_cons_succ, D.int_i, D.bool_b, D.lst_l, List.length_map, Bool.false_eq_true, ↓reduceIte, dlt_f, List.length_map]
    refine round_exit (by omega) ?_
    rw [show F L15_2.key = lpQk from rfl]
    refine hlp.trans ?_
    rw [List.drop_of_length_le (by rw [List.length_zip]; omega)]
    rfl
theorem loopM15_3 : LoopMeets Try.prog F (R L15_3.key) L15_3 lb15_3 := by
  refine loop_meets (pre := R) mixed (sgAt_all (P := Try.prog) (pre := R) (Φ := F) (l := sg15) (fcm ⟨m13, fcm ⟨m34, fcm ⟨m33, fcm ⟨m38, fcm ⟨m39, fcm ⟨m40, fcm ⟨m41, fcm ⟨m36, (fun _ h => nomatch h)⟩⟩⟩⟩⟩⟩⟩⟩)) (loops_n 0 lk15_3 fun k hk => by omega) L15_3 (fun ρ => (((ρ.getD 4 default).lst.length : Int) - (ρ.getD 3 default).int).toNat) le15_3 fun ρ _ hq => ?_
  obtain ⟨a, b, c, M, j, rfl, hj, hm⟩ : prQv ρ := hq
  rw [maxLen_val] at hm
  by_cases hlt : j < M.length
  · simp (disch := omega) only [rt15_3, VT.ok, Nd.holds, X.outs, X.ds, X.d, Op1.ev, Op2.ev, takeD_zero, takeD_cons, List.cons_append, List.nil_append, List.getD_cons_zero, List.getD_cons_succ, D.int_i, D.bool_b, D.lst_l, Int.toNat_natCast, List.length_map, implies_true, true_and, F36, R36, ↓reduceIte, dle_t, dlt_t, w64', rowQz, encQ, fn36_eq]
    rw [show bxB (M.getD j z4).1 (M.getD j z4).2.1 (M.getD j z4).2.2.1 (M.getD j z4).2.2.2 = bxQ (M.getD j z4) from rfl]
    show if (!bxQ (M.getD j z4)) = true then _ else _
    cases hb : (!bxQ (M.getD j z4))
    · simp only [Bool.false_eq_true, if_false]
      refine round_next ⟨⟨a, b, c, M, j + 1, rfl, by omega, hm⟩, ?_, ?_⟩
      · show (((M.map encQ).length : Int) - ((j + 1 : Nat) : Int)).toNat < (((M.map encQ).length : Int) - (j : Int)).toNat
        rw [List.length_map]; omega
      · show lpQv [a, b, c, .i ((j + 1 : Nat) : Int), .l (M.map encQ)] = lpQv [a, b, c, .i (j : Int), .l (M.map encQ)]
        simp only [lpQv, map_decQ, List.length_map, Int.toNat_natCast]
        exact scan_next hlt hb
    · simp only [if_true]
      refine round_exit (by omega) ?_
      show lpQv [a, b, c, .i (j : Int), .l (M.map encQ)] = _
      simp only [lpQv, map_decQ, List.length_map, Int.toNat_natCast]
      exact scan_hit hlt hb
  · have hj' : j = M.length := by omega
    subst hj'
    simp (disch := omega) only [rt15_3, VT.ok, X.ds, X.d, Op1.ev, Op2.ev, List.getD_cons_zero, List.getD_cons_succ, D.int_i, D.bool_b, D.lst_l, List.length_map, Bool.false_eq_true, ↓reduceIte, dlt_f]
    refine round_exit (by omega) ?_
    show lpQv [a, b, c, .i (M.length : Int), .l (M.map encQ)] = _
    simp only [lpQv, map_decQ, List.length_map, Int.toNat_natCast]
    exact scan_end
theorem loopM15_4 : LoopMeets Try.prog F (R L15_4.key) L15_4 lb15_4 := by
  refine loop_meets (pre := R) mixed (sgAt_all (P := Try.prog) (pre := R) (Φ := F) (l := sg15) (fcm ⟨m13, fcm ⟨m34, fcm ⟨m33, fcm ⟨m38, fcm ⟨m39, fcm ⟨m40, fcm ⟨m41, fcm ⟨m36, (fun _ h => nomatch h)⟩⟩⟩⟩⟩⟩⟩⟩)) (loops_n 0 lk15_4 fun k hk => by omega) L15_4 (fun ρ => (((ρ.getD 4 default).lst.length : Int) - (ρ.getD 3 default).int).toNat) le15_4 fun ρ _ hq => ?_
  obtain ⟨a, b, c, M, j, rfl, hj, hm⟩ : prQv ρ := hq
  rw [maxLen_val] at hm
  by_cases hlt : j < M.length
  · simp (disch := omega) only [rt15_4, VT.ok, Nd.holds, X.outs, X.ds, X.d, Op1.ev, Op2.ev, takeD_zero, takeD_cons, List.cons_append, List.nil_append, List.getD_cons_zero, List.getD_cons_succ, D.int_i, D.bool_b, D.lst_l, Int.toNat_natCast, List.length_map, implies_true, true_and, F36, R36, ↓reduceIte, dle_t, dlt_t, w64', rowQz, encQ, fn36_eq]
    rw [show bxB (M.getD j z4).1 (M.getD j z4).2.1 (M.getD j z4).2.2.1 (M.getD j z4).2.2.2 = bxQ (M.getD j z4) from rfl]
    show if (!bxQ (M.getD j z4)) = true then _ else _
    cases hb : (!bxQ (M.getD j z4))
    · simp only [Bool.false_eq_true, if_false]
      refine round_next ⟨⟨a, b, c, M, j + 1, rfl, by omega, hm⟩, ?_, ?_⟩
      · show (((M.map encQ).length : Int) - ((j + 1 : Nat) : Int)).toNat < (((M.map encQ).length : Int) - (j : Int)).toNat
        rw [List.length_map]; omega
      · show lpQv [a, b, c, .i ((j + 1 : Nat) : Int), .l (M.map encQ)] = lpQv [a, b, c, .i (j : Int), .l (M.map encQ)]
        simp only [lpQv, map_decQ, List.length_map, Int.toNat_natCast]
        exact scan_next hlt hb
    · simp only [if_true]
      refine round_exit (by omega) ?_
      show lpQv [a, b, c, .i (j : Int), .l (M.map encQ)] = _
      simp only [lpQv, map_decQ, List.length_map, Int.toNat_natCast]
      exact scan_hit hlt hb
  · have hj' : j = M.length := by omega
    subst hj'
    simp (disch := omega) only [rt15_4, VT.ok, X.ds, X.d, Op1.ev, Op2.ev, List.getD_cons_zero, List.getD_cons_succ, D.int_i, D.bool_b, D.lst_l, List.length_map, Bool.false_eq_true, ↓reduceIte, dlt_f]
    refine round_exit (by omega) ?_
    show lpQv [a, b, c, .i (M.length : Int), .l (M.map encQ)] = _
    simp only [lpQv, map_decQ, List.length_map, Int.toNat_natCast]
    exact scan_end
theorem putTs_kids (B : List Bx) (own : List Nat) (x y : Int) : ∀ (l : List Nat) (L : List Bx) (M K : List Bx), putTs B own x y ((l.map fun k : Nat => (k : Int)).zip L) (M, K) = (M, putK x y (l.zip L) K)
  | [], L, M, K => rfl
  | k :: l, [], M, K => rfl
  | k :: l, q :: L, M, K => by
    show putTs B own x y ((l.map fun k : Nat => (k : Int)).zip L) (putT B own x y (M, K) ((k : Int), q)) = (M, putK x y (l.zip L) (K.set k (shQ q x y)))
    rw [← putTs_kids B own x y l L M (K.set k (shQ q x y)), putT, if_pos (show (0 : Int) ≤ k by omega)]
    rfl
theorem putTs_own {a : Ar} {S : List Pt} {c : Int} (h : 0 < (ownL a.N c).length) (x y : Int) (M K : List Bx) : putTs a.B (ownL a.N c) x y (a.t S c) (M, K) =
    (putN a.B (ownL a.N c) (x + ((best (a.P S c) a.ns).getD 0 z4).1 - (blkB a.B (ownL a.N c)).1) (y + ((best (a.P S c) a.ns).getD 0 z4).2.1 - (blkB a.B (ownL a.N c)).2.1) M, putK x y ((kidL a.C c).zip ((best (a.P S c) a.ns).drop 1)) K) := by
  have e : a.t S c = (heads a.N a.C c).zip (best (a.P S c) a.ns) := rfl
  have hl : (best (a.P S c) a.ns).length = (a.P S c).length := best_len ..
  have hp : 0 < (a.P S c).length := by
    show 0 < (partP a.N a.C a.B S c).length
    rw [← heads_len, heads, if_pos h]
    simp
  rw [e, heads, if_pos h]
  generalize best (a.P S c) a.ns = L at hl
  cases L with
  | nil => simp at hl; omega
  | cons q L =>
    show putTs a.B (ownL a.N c) x y (((kidL a.C c).map fun k : Nat => (k : Int)).zip L) (putT a.B (ownL a.N c) x y (M, K) (-1, q)) = _
    rw [putT, if_neg (show ¬ (0 : Int) ≤ -1 by omega), putTs_kids]
    show (putN a.B (ownL a.N c) (q.1 + x - (blkB a.B (ownL a.N c)).1) (q.2.1 + y - (blkB a.B (ownL a.N c)).2.1) M, _) = (putN a.B (ownL a.N c) (x + q.1 - (blkB a.B (ownL a.N c)).1) (y + q.2.1 - (blkB a.B (ownL a.N c)).2.1) M, _)
    rw [Int.add_comm x q.1, Int.add_comm y q.2.1]
    rfl
theorem putTs_none {a : Ar} {S : List Pt} {c : Int} (h : ¬ 0 < (ownL a.N c).length) (x y : Int) (M K : List Bx) : putTs a.B (ownL a.N c) x y (a.t S c) (M, K) = (M, putK x y ((kidL a.C c).zip (best (a.P S c) a.ns)) K) := by
  have e : a.t S c = (heads a.N a.C c).zip (best (a.P S c) a.ns) := rfl
  rw [e, heads, if_neg h, List.nil_append, putTs_kids]
theorem ownR_eq (g : Gd) (c : Int) : ownRD [.s g.nm, .b g.dr, .l g.N, .l g.E, .l g.C, .i c] = [.l ((ownL g.N c).map encN)] := rfl
theorem kidR_eq (g : Gd) (c : Int) : kidRD [.s g.nm, .b g.dr, .l g.N, .l g.E, .l g.C, .i c] = [.l ((kidL g.C c).map encN)] := rfl
theorem blkR_eq (g : Gd) (B : List Bx) (c : Int) : blkRD [.s g.nm, .b g.dr, .l g.N, .l g.E, .l g.C, .l (B.map encQ), .i c] = [.i (blkB B (ownL g.N c)).1, .i (blkB B (ownL g.N c)).2.1, .i (blkB B (ownL g.N c)).2.2.1, .i (blkB B (ownL g.N c)).2.2.2] := by
  show encQ (blk g.N ((B.map encQ).map decQ) c) = _
  rw [map_decQ]; rfl
end Go.Proofs.Ytindllmeeckfcaa.rv
