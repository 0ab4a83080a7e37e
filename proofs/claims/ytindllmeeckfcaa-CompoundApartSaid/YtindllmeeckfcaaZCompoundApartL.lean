/-
  Nested clusters: own nodes, children, blocks, parts.; Nested clusters: the parts of a cluster, packed.; Nested clusters: the parts of a cluster, packed: the function.; Graphs: names and labels.; Graphs: library functions.; Graphs: names' places, ports, nodes.; Graphs: nodes.; Graphs: clusters around a cluster; clusters; edges.; Graphs: what is valid.; Nested clusters: what is handed in is in order.
-/
import Derived.Test.YtindllmeeckfcaaZCompoundApartK
namespace Go.Proofs.Ytindllmeeckfcaa.rv
set_option maxRecDepth 10000
open Go.RV
theorem snoc_le {α : Type} (acc : List α) (z : α) (K : Int) (h : (acc.length : Int) + 1 ≤ K) : decide (((acc ++ [z]).length : Int) ≤ K) = true := decide_eq_true (by rw [List.length_append]; simp only [List.length_singleton]; omega)
theorem one1_t {p : Nat → Bool} {j : Nat} (h : p j = true) : one1 p j = [[.i (j : Int)]] := if_pos h
theorem one1_f {p : Nat → Bool} {j : Nat} (h : p j = false) : one1 p j = [] := if_neg (by rw [h]; decide)
theorem loopM22_0 : LoopMeets Try.prog F (R L22_0.key) L22_0 lb22_0 := by
  refine loop_meets (pre := R) mixed (sgAt_all (P := Try.prog) (pre := R) (Φ := F) (l := sg22) ((fun _ h => nomatch h))) (loops_n 0 lk22_0 fun k hk => by omega) L22_0 (fun ρ => ((ρ.getD 2 default).int - (ρ.getD 3 default).int).toNat) le22_0 fun ρ _ hp => ?_
  obtain ⟨c, N, j, acc, rfl, hj, h64, hacc⟩ : prOw ρ := hp
  by_cases hlt : j < N.length
  · have hn : ∀ acc' : List (List D), acc ++ one1 (ownP N c) j = acc' → RoundOk F (R L22_0.key) (fun ρ => ((ρ.getD 2 default).int - (ρ.getD 3 default).int).toNat) L22_0 [.i c, .l N, .i (N.length : Int), .i (j : Int), .l acc] [.i (-1), .i ((j + 1 : Nat) : Int), .l acc'] := fun acc' h => by
      subst h
      refine round_next ⟨⟨c, N, j + 1, _, rfl, by omega, h64, ?_⟩, ?_, ?_⟩
      · have := one1_len (ownP N c) j
        rw [List.length_append]; omega
      · show ((N.length : Int) - ((j + 1 : Nat) : Int)).toNat < ((N.length : Int) - (j : Int)).toNat
        omega
      · show lpOw (let acc' := acc ++ one1 (ownP N c) j; [.i c, .l N, .i (N.length : Int), .i ((j + 1 : Nat) : Int), .l acc']) = lpOw [.i c, .l N, .i (N.length : Int), .i (j : Int), .l acc]
        simp only [lpOw, Int.toNat_natCast]
        rw [coll_next (i := j) hlt acc]
    simp (disch := omega) only [rt22_0, VT.ok, Nd.holds, X.ds, X.d, Op1.ev, Op2.ev, List.getD_cons_zero, List.getD_cons_succ, D.int_i, D.bool_b, D.lst_l, Int.toNat_natCast, implies_true, true_and, ↓reduceIte, dle_t, dlt_t, w64', snoc_le]
    by_cases hc : (((N.getD j []).getD 4 default).int == c) = true
    · rw [if_pos hc]
      exact hn _ (by rw [one1_t (p := ownP N c) hc])
    · rw [if_neg hc]
      exact hn _ (by rw [one1_f (p := ownP N c) (Bool.eq_false_iff.2 hc), List.append_nil])
  · have hj : j = N.length := by omega
    subst hj
    simp (disch := omega) only [rt22_0, VT.ok, X.ds, X.d, Op2.ev, List.getD_cons_zero, List.getD_cons_succ, D.int_i, D.bool_b, Bool.false_eq_true, ↓reduceIte, dlt_f]
    refine round_exit (by omega) ?_
    show lpOw [.i c, .l N, .i (N.length : Int), .i (N.length : Int), .l acc] = _
    simp only [lpOw, Int.toNat_natCast, coll_end]
theorem m22 : Meets Try.prog 22 S22 (R 22) (F 22) := by
  refine meets_of_vt (pre := R) (Φ := F) mixed (sgAt_all (P := Try.prog) (pre := R) (Φ := F) (l := sg22) ((fun _ h => nomatch h))) Try.func22 b22 n22 (loops_n 1 k22 fun k hk => match k, hk with | 0, _ => loop_this lf22_0 loopM22_0) e22 fun ds _ hp => ?_
  obtain ⟨p, c, rfl, hf⟩ : ownCP ds := hp
  have hpre : prOw [.i c, .l p.g.N, .i (p.g.N.length : Int), .i 0, .l []] := ⟨c, p.g.N, 0, [], rfl, by omega, hf.1, by simp⟩
  simp only [vt22, VT.ok, Nd.holds, X.outs, X.ds, X.d, Op1.ev, List.cons_append, List.nil_append, List.getD_cons_zero, List.getD_cons_succ, D.bool_b, D.lst_l, implies_true, true_and, F12200, R12200, F22, Pn.d, D.ptd_p, Pn.l, List.length_cons, List.length_nil, show ((0 + 1 + 1 + 1 + 1 + 1 + 1 + 1 + 1 + 1 + 1 + 1 + 1 + 1 : Nat) == 13) = true from rfl]
  refine ⟨fun _ => hpre, ?_⟩
  show [D.l ([] ++ collN (one1 (ownP p.g.N c)) p.g.N.length 0)] = [D.l ((ownL p.g.N c).map encN)]
  rw [List.nil_append, one1_pick]; rfl
theorem rowNn {l : List Nat} {i : Nat} (h : i < l.length) : (l.map encN).getD i [] = encN (l.getD i 0) := row_get 0 h
theorem getD_memN {l : List Nat} {i : Nat} (h : i < l.length) : l.getD i 0 ∈ l := getD_mem 0 h
theorem loopM23_0 : LoopMeets Try.prog F (R L23_0.key) L23_0 lb23_0 := by
  refine loop_meets (pre := R) mixed (sgAt_all (P := Try.prog) (pre := R) (Φ := F) (l := sg23) (List.forall_mem_cons.2 ⟨Meets.at (pre := R) (Φ := F) m50, (fun _ h => nomatch h)⟩)) (loops_n 0 lk23_0 fun k hk => by omega) L23_0 (fun ρ => ((ρ.getD 2 default).int - (ρ.getD 3 default).int).toNat) le23_0 fun ρ _ hp => ?_
  obtain ⟨p, l, j, acc, rfl, hj, h64, hl, hacc⟩ : prBc2 ρ := hp
  by_cases hlt : j < l.length
  · have hv : l.getD j 0 < p.B.length := hl _ (getD_memN hlt)
    have hd : l.drop j = l.getD j 0 :: l.drop (j + 1) := drop_at 0 l hlt
    simp (disch := omega) only [rt23_0, VT.ok, Nd.holds, X.ds, X.d, Op1.ev, Op2.ev, List.getD_cons_zero, List.getD_cons_succ, D.int_i, D.bool_b, D.lst_l, Int.toNat_natCast, List.length_map, implies_true, true_and, ↓reduceIte, dle_t, dlt_t, w64', snoc_le, rowNn, encN, Pn.d, D.ptd_p, Pn.l, List.length_cons, List.length_nil, rowQz, encQ, show ((0 + 1 + 1 + 1 + 1 + 1 + 1 + 1 + 1 + 1 + 1 + 1 + 1 + 1 : Nat) == 13) = true from rfl]
    refine round_next ⟨⟨p, l, j + 1, _, rfl, by omega, h64, hl, ?_⟩, by show ((l.length : Int) - ((j + 1 : Nat) : Int)).toNat < ((l.length : Int) - (j : Int)).toNat; omega, ?_⟩
    · rw [List.length_append]; simp only [List.length_singleton]; omega
    · show lpBc2 [p.d, .l (l.map encN), .i (l.length : Int), .i ((j + 1 : Nat) : Int), .l (acc ++ [encQ (p.B.getD (l.getD j 0) z4)])] = lpBc2 [p.d, .l (l.map encN), .i (l.length : Int), .i (j : Int), .l acc]
      simp only [lpBc2, Int.toNat_natCast, map_decN, List.length_map, hd, boxesAt, List.map_cons, List.append_assoc, List.singleton_append, Pn.d, D.ptd_p, Pn.l, cL, List.getD_cons_zero, List.getD_cons_succ, D.lst_l, map_decQ]
  · have hj : j = l.length := by omega
    subst hj
    simp (disch := omega) only [rt23_0, VT.ok, X.ds, X.d, Op2.ev, List.getD_cons_zero, List.getD_cons_succ, D.int_i, D.bool_b, Bool.false_eq_true, ↓reduceIte, dlt_f]
    refine round_exit (by omega) ?_
    show lpBc2 [p.d, .l (l.map encN), .i (l.length : Int), .i (l.length : Int), .l acc] = _
    simp only [lpBc2, Int.toNat_natCast, map_decN, List.length_map, List.drop_length, boxesAt, List.map_nil, List.append_nil]
theorem own_lt {N : List (List D)} {c : Int} {n : Nat} (h : n = N.length) : ∀ v ∈ ownL N c, v < n := fun v hv => by
  have := (pick_lt hv).1
  omega
theorem m23 : Meets Try.prog 23 S23 (R 23) (F 23) := by
  refine meets_of_vt (pre := R) (Φ := F) mixed (sgAt_all (P := Try.prog) (pre := R) (Φ := F) (l := sg23) (List.forall_mem_cons.2 ⟨Meets.at (pre := R) (Φ := F) m50, (fun _ h => nomatch h)⟩)) Try.func23 b23 n23 (loops_n 1 k23 fun k hk => match k, hk with | 0, _ => loop_this lf23_0 loopM23_0) e23 fun ds _ hp => ?_
  obtain ⟨p, l, rfl, h1, h2⟩ : blkCP ds := hp
  have hpre : prBc2 [p.d, .l (l.map encN), .i (l.length : Int), .i 0, .l []] := ⟨p, l, 0, [], rfl, by omega, h1, h2, by simp⟩
  have hl : lpBc2 [p.d, .l (l.map encN), .i (l.length : Int), .i 0, .l []] = [.i 0, .i (l.length : Int), .l ((boxesAt p.B l).map encQ)] := by
    simp only [lpBc2, Pn.d, D.ptd_p, Pn.l, cL, List.getD_cons_zero, List.getD_cons_succ, D.lst_l, map_decQ, map_decN, Int.toNat_zero, List.drop_zero, List.nil_append, List.length_map]
  simp only [vt23, VT.ok, Nd.holds, X.outs, X.ds, X.d, Op1.ev, takeD_zero, takeD_cons, List.cons_append, List.nil_append, List.getD_cons_zero, List.getD_cons_succ, D.bool_b, D.lst_l, List.length_map, implies_true, true_and, F50, R50, F12300, R12300, F23, hl, uniD_typed, encQ]
  refine ⟨fun _ => hpre, ?_⟩
  show encQ (uni (boxesAt p.B l)) = encQ (blkB ((p.B.map encQ).map decQ) ((l.map encN).map decN))
  rw [map_decQ, map_decN]; rfl
end Go.Proofs.Ytindllmeeckfcaa.rv
namespace Go.Proofs.Ytindllmeeckfcaa.rv
set_option maxRecDepth 10000
open Go.RV
theorem coll_pick {α : Type} (p : Nat → Bool) (f : Nat → α) (n : Nat) : collN (fun j => if p j = true then [f j] else []) n 0 = (pickN p n).map f := by
  unfold collN pickN
  rw [List.drop_zero]
  generalize List.range n = l
  induction l with
  | nil => rfl
  | cons a l ih =>
    rw [List.flatMap_cons, ih, List.filter_cons]
    split <;> rfl
theorem ext_i64 {q : Bx} (h : smQ q) : IntKind.i64.wrap (q.2.2.1 - q.1) = (extQ q).1 ∧ IntKind.i64.wrap (q.2.2.2 - q.2.1) = (extQ q).2 := by
  unfold smQ at h
  exact ⟨w64 (by omega), w64 (by omega)⟩
theorem loopM49_0 : LoopMeets Try.prog F (R L49_0.key) L49_0 lb49_0 := by
  refine loop_meets (pre := R) mixed (sgAt_all (P := Try.prog) (pre := R) (Φ := F) (l := sg49) (List.forall_mem_cons.2 ⟨Meets.at (pre := R) (Φ := F) m22, List.forall_mem_cons.2 ⟨Meets.at (pre := R) (Φ := F) m23, List.forall_mem_cons.2 ⟨Meets.at (pre := R) (Φ := F) m29, List.forall_mem_cons.2 ⟨Meets.at (pre := R) (Φ := F) m78, List.forall_mem_cons.2 ⟨Meets.at (pre := R) (Φ := F) m50, (fun _ h => nomatch h)⟩⟩⟩⟩⟩)) (loops_n 0 lk49_0 fun k hk => by omega) L49_0 (fun ρ => ((ρ.getD 3 default).int - (ρ.getD 4 default).int).toNat) le49_0 fun ρ _ hp => ?_
  obtain ⟨p, c, j, ps, zs, rfl, hj, hf, hps, hzs⟩ : prPk ρ := hp
  have hf' := hf
  obtain ⟨f1, f2, f3, f4⟩ := hf'
  by_cases hlt : j < p.g.C.length
  · have hr : (p.S.map encP).getD j [] = encP (p.S.getD j pz) := row_get pz (by omega)
    have hn : ∀ ps' zs' : List (List D), ps ++ kidT p.g.C c j = ps' → zs ++ kidZ p.g.C p.S c j = zs' → RoundOk F (R L49_0.key) (fun ρ => ((ρ.getD 3 default).int - (ρ.getD 4 default).int).toNat) L49_0 [p.d, .i c, .l p.g.C, .i (p.g.C.length : Int), .i (j : Int), .l ps, .l zs] [.i (-1), .i ((j + 1 : Nat) : Int), .l ps', .l zs'] := fun ps' zs' h h' => by
      subst h h'
      refine round_next ⟨⟨p, c, j + 1, _, _, rfl, by omega, hf, ?_, ?_⟩, ?_, ?_⟩
      · rw [List.length_append]; unfold kidT; split <;> simp <;> omega
      · rw [List.length_append]; unfold kidZ; split <;> simp <;> omega
      · show ((p.g.C.length : Int) - ((j + 1 : Nat) : Int)).toNat < ((p.g.C.length : Int) - (j : Int)).toNat
        omega
      · show lpPk [p.d, .i c, .l p.g.C, .i (p.g.C.length : Int), .i ((j + 1 : Nat) : Int), .l (ps ++ kidT p.g.C c j), .l (zs ++ kidZ p.g.C p.S c j)] = lpPk [p.d, .i c, .l p.g.C, .i (p.g.C.length : Int), .i (j : Int), .l ps, .l zs]
        simp only [lpPk, Int.toNat_natCast, Pn.d, D.ptd_p, Pn.l, cL, List.getD_cons_zero, List.getD_cons_succ, D.lst_l, map_decP]
        rw [coll_next (f := kidT p.g.C c) (i := j) hlt ps, coll_next (f := kidZ p.g.C p.S c) (i := j) hlt zs]
    simp (disch := omega) only [rt49_0, VT.ok, Nd.holds, X.ds, X.d, Op1.ev, Op2.ev, List.getD_cons_zero, List.getD_cons_succ, D.int_i, D.bool_b, D.lst_l, Int.toNat_natCast, List.length_map, implies_true, true_and, ↓reduceIte, dle_t, dlt_t, w64', snoc_le, Pn.d, D.ptd_p, Pn.l, List.length_cons, List.length_nil, hr, encP, show ((0 + 1 + 1 + 1 + 1 + 1 + 1 + 1 + 1 + 1 + 1 + 1 + 1 + 1 : Nat) == 13) = true from rfl]
    by_cases hc : (((p.g.C.getD j []).getD 1 default).int == c) = true
    · rw [if_pos hc]
      exact hn _ _ (by rw [kidT, if_pos (show kidP p.g.C c j = true from hc)]; rfl) (by rw [kidZ, if_pos (show kidP p.g.C c j = true from hc)]; rfl)
    · rw [if_neg hc]
      exact hn _ _ (by rw [kidT, if_neg (show ¬ kidP p.g.C c j = true from hc), List.append_nil]) (by rw [kidZ, if_neg (show ¬ kidP p.g.C c j = true from hc), List.append_nil])
  · have hj : j = p.g.C.length := by omega
    subst hj
    simp (disch := omega) only [rt49_0, VT.ok, X.ds, X.d, Op2.ev, List.getD_cons_zero, List.getD_cons_succ, D.int_i, D.bool_b, Bool.false_eq_true, ↓reduceIte, dlt_f]
    refine round_exit (by omega) ?_
    show lpPk [p.d, .i c, .l p.g.C, .i (p.g.C.length : Int), .i (p.g.C.length : Int), .l ps, .l zs] = _
    simp only [lpPk, Int.toNat_natCast, coll_end]
theorem part1_len (hs : List Int) (b : List Bx) (j : Nat) : (part1 hs b j).length = hs.length := by
  unfold part1; rw [List.length_map, rowF_len]
theorem part1_at {hs : List Int} {b : List Bx} {j i : Nat} (h : i < hs.length) : el (part1 hs b j) i = encT (hs.getD i 0, if i < j then b.getD i z4 else z4) := by
  show ((rowF _ hs.length).map encT).getD i [] = _
  rw [row_get (enc := encT) ((0, z4) : Tp) (by rw [rowF_len]; exact h), rowF_get _ h]
theorem part1_set {hs : List Int} {b : List Bx} {j : Nat} (h : j < hs.length) : (part1 hs b j).set j (splice (el (part1 hs b j) j) 1 (encQ (b.getD j z4))) = part1 hs b (j + 1) := by
  rw [part1_at h, if_neg (Nat.lt_irrefl j)]
  have e : splice (encT (hs.getD j 0, z4)) 1 (encQ (b.getD j z4)) = encT (hs.getD j 0, b.getD j z4) := rfl
  rw [e]
  unfold part1
  rw [← List.map_set, rowF_set]
  congr 1
  refine rowF_congr fun v _ => ?_
  by_cases hv : v = j
  · subst hv; rw [if_pos rfl, if_pos (by omega)]
  · rw [if_neg hv]
    by_cases h1 : v < j
    · rw [if_pos h1, if_pos (by omega)]
    · rw [if_neg h1, if_neg (by omega)]
theorem part1_full {hs : List Int} {b : List Bx} (h : hs.length = b.length) : part1 hs b hs.length = (hs.zip b).map encT := by
  unfold part1
  congr 1
  refine List.ext_getElem (by simp [rowF, h]) fun i h1 h2 => ?_
  have hi : i < hs.length := by simpa [rowF] using h1
  simp only [rowF, List.getElem_map, List.getElem_range, if_pos hi, List.getElem_zip, List.getD, List.getElem?_eq_getElem hi, List.getElem?_eq_getElem (show i < b.length by omega), Option.getD_some]
theorem part1_zero (hs : List Int) (b : List Bx) : part1 hs b 0 = hs.map hd1 := by
  unfold part1
  refine List.ext_getElem (by simp [rowF]) fun i h1 h2 => ?_
  have hi : i < hs.length := by simpa [rowF] using h1
  simp only [rowF, List.getElem_map, List.getElem_range, Nat.not_lt_zero, if_false, List.getD, List.getElem?_eq_getElem hi, Option.getD_some, hd1]
theorem part1_hs (hs : List Int) (b : List Bx) (j : Nat) : (part1 hs b j).map (fun r => cI r 0) = hs := by
  unfold part1
  refine List.ext_getElem (by simp [rowF]) fun i h1 h2 => ?_
  have hi : i < hs.length := by simpa [rowF] using h1
  simp only [rowF, List.getElem_map, List.getElem_range, List.getD, List.getElem?_eq_getElem hi, Option.getD_some]
  rfl
theorem loopM49_1 : LoopMeets Try.prog F (R L49_1.key) L49_1 lb49_1 := by
  refine loop_meets (pre := R) mixed (sgAt_all (P := Try.prog) (pre := R) (Φ := F) (l := sg49) (List.forall_mem_cons.2 ⟨Meets.at (pre := R) (Φ := F) m22, List.forall_mem_cons.2 ⟨Meets.at (pre := R) (Φ := F) m23, List.forall_mem_cons.2 ⟨Meets.at (pre := R) (Φ := F) m29, List.forall_mem_cons.2 ⟨Meets.at (pre := R) (Φ := F) m78, List.forall_mem_cons.2 ⟨Meets.at (pre := R) (Φ := F) m50, (fun _ h => nomatch h)⟩⟩⟩⟩⟩)) (loops_n 0 lk49_1 fun k hk => by omega) L49_1 (fun ρ => ((ρ.getD 1 default).int - (ρ.getD 2 default).int).toNat) le49_1 fun ρ _ hp => ?_
  obtain ⟨b, hs, j, rfl, hj, hb, h64⟩ : prPl ρ := hp
  have hlen := part1_len hs b j
  by_cases hlt : j < hs.length
  · have hset := part1_set (b := b) hlt
    simp (disch := omega) only [rt49_1, VT.ok, Nd.holds, X.ds, X.d, Op1.ev, Op2.ev, List.getD_cons_zero, List.getD_cons_succ, D.int_i, D.bool_b, D.lst_l, Int.toNat_natCast, List.length_map, implies_true, true_and, ↓reduceIte, dle_t, dlt_t, w64', rowQz, encQ, hlen]
    refine round_next ⟨⟨b, hs, j + 1, ?_, by omega, hb, h64⟩, ?_, ?_⟩
    · show [D.l (b.map encQ), .i (hs.length : Int), .i ((j + 1 : Nat) : Int), .l ((part1 hs b j).set j (splice (el (part1 hs b j) j) 1 (encQ (b.getD j z4))))] = _
      rw [hset]
    · show ((hs.length : Int) - ((j + 1 : Nat) : Int)).toNat < ((hs.length : Int) - (j : Int)).toNat
      omega
    · show lpPl [.l (b.map encQ), .i (hs.length : Int), .i ((j + 1 : Nat) : Int), .l ((part1 hs b j).set j (splice (el (part1 hs b j) j) 1 (encQ (b.getD j z4))))] = lpPl [.l (b.map encQ), .i (hs.length : Int), .i (j : Int), .l (part1 hs b j)]
      rw [hset]
      simp only [lpPl, part1_len, part1_hs]
  · have hj : j = hs.length := by omega
    subst hj
    simp (disch := omega) only [rt49_1, VT.ok, X.ds, X.d, Op2.ev, List.getD_cons_zero, List.getD_cons_succ, D.int_i, D.bool_b, Bool.false_eq_true, ↓reduceIte, dlt_f]
    refine round_exit (by omega) ?_
    show lpPl [.l (b.map encQ), .i (hs.length : Int), .i (hs.length : Int), .l (part1 hs b hs.length)] = _
    simp only [lpPl, part1_len, part1_hs, map_decQ]
    rw [part1_full hb]
end Go.Proofs.Ytindllmeeckfcaa.rv
namespace Go.Proofs.Ytindllmeeckfcaa.rv
set_option maxRecDepth 10000
open Go.RV
theorem ownC_eq (p : Pn) (c : Int) : ownCD [p.d, .i c] = [.l ((ownL p.g.N c).map encN)] := rfl
theorem blkC_eq (p : Pn) (l : List Nat) : blkCD [p.d, .l (l.map encN)] = [.i (blkB p.B l).1, .i (blkB p.B l).2.1, .i (blkB p.B l).2.2.1, .i (blkB p.B l).2.2.2] := by
  show encQ (blkB ((p.B.map encQ).map decQ) ((l.map encN).map decN)) = _
  rw [map_decQ, map_decN]; rfl
theorem lpPk_eq (p : Pn) (c : Int) (ps zs : List (List D)) : lpPk [p.d, .i c, .l p.g.C, .i (p.g.C.length : Int), .i 0, .l ps, .l zs] = [.i 0, .i (p.g.C.length : Int), .l (ps ++ ((kidL p.g.C c).map fun k : Nat => hd1 (k : Int))), .l (zs ++ ((kidL p.g.C c).map fun k => encP (p.S.getD k pz)))] := by
  have h1 : collN (kidT p.g.C c) p.g.C.length 0 = (kidL p.g.C c).map fun k : Nat => hd1 (k : Int) := coll_pick (kidP p.g.C c) (fun k : Nat => hd1 (k : Int)) p.g.C.length
  have h2 : collN (kidZ p.g.C p.S c) p.g.C.length 0 = (kidL p.g.C c).map fun k => encP (p.S.getD k pz) := coll_pick (kidP p.g.C c) (fun k : Nat => encP (p.S.getD k pz)) p.g.C.length
  simp only [lpPk, Int.toNat_zero, Pn.d, D.ptd_p, Pn.l, cL, List.getD_cons_zero, List.getD_cons_succ, D.lst_l, map_decP]
  rw [h1, h2]
theorem bestD_eq (l : List Pt) (g : Int) : bestD [.l (l.map encP), .i g] = [.l ((if cerr l 0 g = 0 then best l g else []).map encQ), .i (cerr l 0 g)] := by simp only [bestD, map_decP]
theorem lpPl_eq {b : List Bx} {hs : List Int} {n : Int} (h : (hs.length : Int) = n) : lpPl [.l (b.map encQ), .i n, .i 0, .l (hs.map hd1)] = [.i 0, .i n, .l ((hs.zip b).map encT)] := by
  subst h
  have e : ((hs.map hd1).map fun r => cI r 0) = hs := by
    rw [List.map_map]
    have : ((fun r => cI r 0) ∘ hd1) = id := by funext k; rfl
    rw [this, List.map_id]
  simp only [lpPl, e, map_decQ, List.length_map]
theorem hdp {N C : List (List D)} {c : Int} (h : 0 < (ownL N c).length) : [[D.i (-1), D.i 0, D.i 0, D.i 0, D.i 0]] ++ ((kidL C c).map fun k : Nat => hd1 (k : Int)) = (heads N C c).map hd1 := by
  unfold heads
  rw [if_pos h, List.map_append, List.map_map]; rfl
theorem hdn {N C : List (List D)} {c : Int} (h : ¬ 0 < (ownL N c).length) : ((kidL C c).map fun k : Nat => hd1 (k : Int)) = (heads N C c).map hd1 := by
  unfold heads
  rw [if_neg h, List.nil_append, List.map_map]; rfl
theorem zsp {N C : List (List D)} {B : List Bx} {S : List Pt} {c : Int} (h : 0 < (ownL N c).length) : [[D.i (extQ (blkB B (ownL N c))).1, D.i (extQ (blkB B (ownL N c))).2]] ++ ((kidL C c).map fun k => encP (S.getD k pz)) = (partP N C B S c).map encP := by
  unfold partP
  rw [if_pos h, List.map_append, List.map_map]; rfl
theorem zsn {N C : List (List D)} {B : List Bx} {S : List Pt} {c : Int} (h : ¬ 0 < (ownL N c).length) : ((kidL C c).map fun k => encP (S.getD k pz)) = (partP N C B S c).map encP := by
  unfold partP
  rw [if_neg h, List.nil_append, List.map_map]; rfl
theorem uni_eq (l : List Bx) : uniD [.l (l.map encQ)] = [.i (uni l).1, .i (uni l).2.1, .i (uni l).2.2.1, .i (uni l).2.2.2] := uniD_typed l
theorem fnE_eq (q : Bx) (h : smQ q) : fn29 [.i q.1, .i q.2.1, .i q.2.2.1, .i q.2.2.2] = [.i (extQ q).1, .i (extQ q).2] := fn29_eq q h
theorem m49 : Meets Try.prog 49 S49 (R 49) (F 49) := by
  refine meets_of_vt (pre := R) (Φ := F) mixed (sgAt_all (P := Try.prog) (pre := R) (Φ := F) (l := sg49) (List.forall_mem_cons.2 ⟨Meets.at (pre := R) (Φ := F) m22, List.forall_mem_cons.2 ⟨Meets.at (pre := R) (Φ := F) m23, List.forall_mem_cons.2 ⟨Meets.at (pre := R) (Φ := F) m29, List.forall_mem_cons.2 ⟨Meets.at (pre := R) (Φ := F) m78, List.forall_mem_cons.2 ⟨Meets.at (pre := R) (Φ := F) m50, (fun _ h => nomatch h)⟩⟩⟩⟩⟩)) Try.func49 b49 n49 (loops_n 2 k49 fun k hk => match k, hk with | 0, _ => loop_this lf49_0 loopM49_0 | 1, _ => loop_this lf49_1 loopM49_1) e49 fun ds _ hp => ?_
  have hp0 : ownCP ds := hp
  obtain ⟨p, c, rfl, hf⟩ : ownCP ds := hp
  have hf' := hf
  obtain ⟨f1, f2, f3, f4⟩ := hf'
  have hsB : smQ (blkB p.B (ownL p.g.N c)) := smQ_of (uni_ok _)
  have hout : packD [p.d, .i c] = packR p c := by
    show packR (pnOf p.d) c = _
    rw [pnOf_d]
  have hownlen : (ownL p.g.N c).length ≤ p.g.N.length := pick_len (ownP p.g.N c) p.g.N.length
  have hPl := partP_len p.g.N p.g.C p.B p.S c
  have hml : (partP p.g.N p.g.C p.B p.S c).length ≤ maxLen := by rw [maxLen_val]; omega
  have hhl := heads_len p.g.N p.g.C p.B p.S c
  have hbl : (heads p.g.N p.g.C c).length = (best (partP p.g.N p.g.C p.B p.S c) p.o.ns).length := by rw [best_len, hhl]
  have hpl : ∀ n : Int, ((heads p.g.N p.g.C c).length : Int) = n → prPl [.l ((best (partP p.g.N p.g.C p.B p.S c) p.o.ns).map encQ), .i n, .i 0, .l ((heads p.g.N p.g.C c).map hd1)] := fun n hn => by
    subst hn
    exact ⟨_, heads p.g.N p.g.C c, 0, by rw [part1_zero]; rfl, by omega, hbl, by omega⟩
  have h13 : ((0 + 1 + 1 + 1 + 1 + 1 + 1 + 1 + 1 + 1 + 1 + 1 + 1 + 1 : Nat) == 13) = true := rfl
  have hee : (arP p).e p.S c = cerr (partP p.g.N p.g.C p.B p.S c) 0 p.o.ns := rfl
  have hR : ∀ (_ : ¬ cerr (partP p.g.N p.g.C p.B p.S c) 0 p.o.ns = 0), packR p c = [.l [], .i 0, .i 0, .i 2] := fun h => by
    unfold packR; rw [hee, if_neg h]
  have hR0 : ∀ (_ : cerr (partP p.g.N p.g.C p.B p.S c) 0 p.o.ns = 0), packR p c = [.l (((heads p.g.N p.g.C c).zip (best (partP p.g.N p.g.C p.B p.S c) p.o.ns)).map encT), .i (extQ (uni (best (partP p.g.N p.g.C p.B p.S c) p.o.ns))).1, .i (extQ (uni (best (partP p.g.N p.g.C p.B p.S c) p.o.ns))).2, .i 0] := fun h => by
    unfold packR; rw [hee, if_pos h]; rfl
  have hlk : ∀ ps zs, lpPk [p.d, .i c, .l (p.l.getD 4 default).lst, .i ((p.l.getD 4 default).lst.length : Int), .i 0, .l ps, .l zs] = [.i 0, .i (p.g.C.length : Int), .l (ps ++ ((kidL p.g.C c).map fun k : Nat => hd1 (k : Int))), .l (zs ++ ((kidL p.g.C c).map fun k => encP (p.S.getD k pz)))] := fun ps zs => lpPk_eq p c ps zs
  have hns : ((p.d).ptd.getD 6 default) = .i p.o.ns := rfl
  have hC : ((p.d).ptd.getD 4 default) = .l p.g.C := rfl
  have h13 : ((p.d).ptd.length == 13) = true := rfl
  simp only [vt49, VT.ok, Nd.holds, X.outs, X.ds, X.d, Op1.ev, Op2.ev, takeD_zero, takeD_cons, List.cons_append, List.nil_append, List.getD_cons_zero, List.getD_cons_succ, D.int_i, D.bool_b, D.lst_l, List.length_map, implies_true, true_and, F29, R29, F50, R50, F78, R78, F22, R22, F23, R23, F14900, R14900, F14901, R14901, F49, ownC_eq, hout]
  refine ⟨fun _ => hp0, ?_⟩
  by_cases h0 : 0 < (ownL p.g.N c).length
  · rw [if_pos (decide_eq_true (by omega))]
    simp only [blkC_eq, fnE_eq _ hsB, takeD_zero, takeD_cons, List.cons_append, List.nil_append, List.getD_cons_zero, List.getD_cons_succ, D.int_i, D.lst_l, List.length_map, implies_true, true_and, hns, hC, h13, lpPk_eq, hdp h0, zsp h0, bestD_eq]
    refine ⟨fun _ => by simp, fun _ => ⟨p, _, rfl, by omega, own_lt (by omega)⟩, fun _ => by simp, fun _ => ⟨p, c, 0, _, _, rfl, by omega, hf, by simp, by simp⟩, fun _ => ⟨_, _, rfl, hml⟩, ?_⟩
    by_cases hc : cerr (partP p.g.N p.g.C p.B p.S c) 0 p.o.ns = 0
    · have hb : (!(cerr (partP p.g.N p.g.C p.B p.S c) 0 p.o.ns == 0)) = false := by simp [hc]
      rw [hR0 hc]
      simp only [hc, if_true, takeD_zero, takeD_cons, List.cons_append, List.nil_append, List.getD_cons_zero, List.getD_cons_succ, if_true, and_true, lpPl_eq (b := best (partP p.g.N p.g.C p.B p.S c) p.o.ns) (hs := heads p.g.N p.g.C c) rfl, uni_eq, fnE_eq _ (smQ_of (uni_ok _))]
      exact fun _ => hpl _ rfl
    · have hb : (!(cerr (partP p.g.N p.g.C p.B p.S c) 0 p.o.ns == 0)) = true := by simp [hc]
      rw [hR hc, if_pos hb]
  · rw [if_neg (by rw [decide_eq_false (by omega)]; decide)]
    simp only [takeD_zero, takeD_cons, List.cons_append, List.nil_append, List.getD_cons_zero, List.getD_cons_succ, D.int_i, D.lst_l, List.length_map, implies_true, true_and, hns, hC, h13, lpPk_eq, hdn h0, zsn (B := p.B) h0, bestD_eq]
    refine ⟨fun _ => ⟨p, c, 0, _, _, rfl, by omega, hf, by simp, by simp⟩, fun _ => ⟨_, _, rfl, hml⟩, ?_⟩
    by_cases hc : cerr (partP p.g.N p.g.C p.B p.S c) 0 p.o.ns = 0
    · have hb : (!(cerr (partP p.g.N p.g.C p.B p.S c) 0 p.o.ns == 0)) = false := by simp [hc]
      rw [hR0 hc]
      simp only [hc, if_true, takeD_zero, takeD_cons, List.cons_append, List.nil_append, List.getD_cons_zero, List.getD_cons_succ, if_true, and_true, lpPl_eq (b := best (partP p.g.N p.g.C p.B p.S c) p.o.ns) (hs := heads p.g.N p.g.C c) rfl, uni_eq, fnE_eq _ (smQ_of (uni_ok _))]
      exact fun _ => hpl _ rfl
    · have hb : (!(cerr (partP p.g.N p.g.C p.B p.S c) 0 p.o.ns == 0)) = true := by simp [hc]
      rw [hR hc, if_pos hb]
end Go.Proofs.Ytindllmeeckfcaa.rv
namespace Go.Proofs.Ytindllmeeckfcaa.rv
set_option maxRecDepth 10000
open Go.RV
theorem kw6 (a b c d e f : Bool) : (if a = true then [D.b true] else if b = true then [D.b true] else if c = true then [D.b true] else if d = true then [D.b true] else if e = true then [D.b true] else if f = true then [D.b true] else [D.b false]) = [D.b (a || (b || (c || (d || (e || f)))))] := by
  cases a <;> cases b <;> cases c <;> cases d <;> cases e <;> cases f <;> rfl
theorem fn102_eq (ds : List D) : fn102 ds = letD ds := by
  show vt102.val T102 ds = _
  show [if (if (if decide (97 ≤ cI ds 0) = true then D.b (decide (cI ds 0 ≤ 122)) else D.b false).bool = true then D.b true else (if decide (65 ≤ cI ds 0) = true then D.b (decide (cI ds 0 ≤ 90)) else D.b false)).bool = true then D.b true else D.b (cI ds 0 == 95)] = _
  simp only [ite_b, D.bool_b, ite_and, ite_or]
  rfl
theorem fn103_eq (ds : List D) : fn103 ds = digD ds := by
  show vt103.val T103 ds = _
  show [if decide (48 ≤ cI ds 0) = true then D.b (decide (cI ds 0 ≤ 57)) else D.b false] = _
  simp only [ite_b, ite_and]
  rfl
theorem fn80_eq (ds : List D) : fn80 ds = kwD ds := by
  exact kw6 _ _ _ _ _ _
theorem loopM79_0 : LoopMeets Try.prog F (R L79_0.key) L79_0 lb79_0 := by
  refine loop_meets (pre := R) mixed (sgAt_all (P := Try.prog) (pre := R) (Φ := F) (l := sg79) (List.forall_mem_cons.2 ⟨Meets.at (pre := R) (Φ := F) m102, List.forall_mem_cons.2 ⟨Meets.at (pre := R) (Φ := F) m103, (fun _ h => nomatch h)⟩⟩)) (loops_n 0 lk79_0 fun k hk => by omega) L79_0 (fun ρ => (((ρ.getD 0 default).str.size : Int) - (ρ.getD 1 default).int).toNat) le79_0 fun ρ _ hq => ?_
  obtain ⟨s, j, rfl, hj, hm⟩ : prWord ρ := hq
  rw [maxLen_val] at hm
  by_cases hlt : j < s.size
  · simp (disch := omega) only [rt79_0, VT.ok, Nd.holds, X.outs, X.ds, X.d, Op1.ev, Op2.ev, takeD_zero, takeD_cons, List.cons_append, List.nil_append, List.getD_cons_zero, List.getD_cons_succ, D.int_i, D.bool_b, D.str_s, ite_b, ite_or, ite_and, Int.toNat_natCast, implies_true, true_and, F102, R102, F103, R103, ↓reduceIte, dle_t, dlt_t, w64', fn102_eq, fn103_eq, letD, digD, cI, Int.toNat_natCast]
    have hN : wordP s j = false → RoundOk F (R L79_0.key) (fun ρ => (((ρ.getD 0 default).str.size : Int) - (ρ.getD 1 default).int).toNat) L79_0 [.s s, .i (j : Int)] [.i (-1), .i ((j + 1 : Nat) : Int)] := fun hb => by
      refine round_next ⟨⟨s, j + 1, rfl, by omega, hm⟩, ?_, ?_⟩
      · show ((s.size : Int) - ((j + 1 : Nat) : Int)).toNat < ((s.size : Int) - (j : Int)).toNat
        omega
      · show lpWord [.s s, .i ((j + 1 : Nat) : Int)] = lpWord [.s s, .i (j : Int)]
        simp only [lpWord, Int.toNat_natCast]
        exact scan_next hlt hb
    have hX : wordP s j = true → RoundOk F (R L79_0.key) (fun ρ => (((ρ.getD 0 default).str.size : Int) - (ρ.getD 1 default).int).toNat) L79_0 [.s s, .i (j : Int)] [.i 0, .i (j : Int)] := fun hb => by
      refine round_exit (by omega) ?_
      show lpWord [.s s, .i (j : Int)] = _
      simp only [lpWord, Int.toNat_natCast]
      exact scan_hit hlt hb
    have e : wordP s j = !(letB (bt s j) || (decide (0 < (j : Int)) && digB (bt s j))) := rfl
    cases hb : letB (bt s j)
    · cases hb2 : (decide (0 < (j : Int)) && digB (bt s j))
      · rw [hb, hb2] at e
        show if (letB (bt s j) || (decide (0 < (j : Int)) && digB (bt s j))) = true then _ else _
        rw [hb, hb2]
        exact hX e
      · rw [hb, hb2] at e
        show if (letB (bt s j) || (decide (0 < (j : Int)) && digB (bt s j))) = true then _ else _
        rw [hb, hb2]
        exact hN e
    · rw [hb] at e
      show if (letB (bt s j) || (decide (0 < (j : Int)) && digB (bt s j))) = true then _ else _
      rw [hb]
      exact hN e
  · have hj' : j = s.size := by omega
    subst hj'
    simp (disch := omega) only [rt79_0, VT.ok, Nd.holds, X.outs, X.ds, X.d, Op1.ev, Op2.ev, List.cons_append, List.nil_append, List.getD_cons_zero, List.getD_cons_succ, D.int_i, D.bool_b, D.str_s, Int.toNat_natCast, Bool.false_eq_true, implies_true, true_and, false_implies, ↓reduceIte, dle_t, dlt_f]
    refine round_exit (by omega) ?_
    show lpWord [.s s, .i (s.size : Int)] = _
    simp only [lpWord, Int.toNat_natCast]
    exact scan_end
theorem m79 : Meets Try.prog 79 S79 (R 79) (F 79) := by
  refine meets_of_vt (pre := R) (Φ := F) mixed (sgAt_all (P := Try.prog) (pre := R) (Φ := F) (l := sg79) (List.forall_mem_cons.2 ⟨Meets.at (pre := R) (Φ := F) m102, List.forall_mem_cons.2 ⟨Meets.at (pre := R) (Φ := F) m103, (fun _ h => nomatch h)⟩⟩)) Try.func79 b79 n79 (loops_n 1 k79 fun k hk => match k, hk with | 0, _ => loop_this lf79_0 loopM79_0) e79 fun ds hf _ => ?_
  obtain ⟨x, rfl, hx⟩ := fits1 hf.flat
  obtain ⟨s, rfl, hs⟩ := wf_str hx
  have hpre : prWord [.s s, .i 0] := ⟨s, 0, rfl, by omega, hs⟩
  simp only [vt79, VT.ok, Nd.holds, X.outs, X.ds, X.d, List.cons_append, List.nil_append, List.getD_cons_zero, List.getD_cons_succ, D.bool_b, F17900, R17900, F79]
  refine ⟨fun _ => hpre, ?_⟩
  simp only [lpWord, Int.toNat_zero, Nat.sub_zero, scan_fs, wordD, cS, List.getD_cons_zero, D.str_s]
  by_cases h : fs (wordP s) s.size < s.size
  · rw [if_pos h]; rfl
  · have := fs_le (wordP s) s.size
    rw [if_neg h, show fs (wordP s) s.size = s.size by omega]; rfl
theorem fn109_eq (ds : List D) : fn109 ds = letD ds := by
  show vt109.val T109 ds = _
  show [if (if (if decide (97 ≤ cI ds 0) = true then D.b (decide (cI ds 0 ≤ 122)) else D.b false).bool = true then D.b true else (if decide (65 ≤ cI ds 0) = true then D.b (decide (cI ds 0 ≤ 90)) else D.b false)).bool = true then D.b true else D.b (cI ds 0 == 95)] = _
  simp only [ite_b, D.bool_b, ite_and, ite_or]
  rfl
theorem fn110_eq (ds : List D) : fn110 ds = digD ds := by
  show vt110.val T110 ds = _
  show [if decide (48 ≤ cI ds 0) = true then D.b (decide (cI ds 0 ≤ 57)) else D.b false] = _
  simp only [ite_b, ite_and]
  rfl
theorem fn92_eq (ds : List D) : fn92 ds = kwD ds := by
  exact kw6 _ _ _ _ _ _
theorem loopM91_0 : LoopMeets Try.prog F (R L91_0.key) L91_0 lb91_0 := by
  refine loop_meets (pre := R) mixed (sgAt_all (P := Try.prog) (pre := R) (Φ := F) (l := sg91) (List.forall_mem_cons.2 ⟨Meets.at (pre := R) (Φ := F) m109, List.forall_mem_cons.2 ⟨Meets.at (pre := R) (Φ := F) m110, (fun _ h => nomatch h)⟩⟩)) (loops_n 0 lk91_0 fun k hk => by omega) L91_0 (fun ρ => (((ρ.getD 0 default).str.size : Int) - (ρ.getD 1 default).int).toNat) le91_0 fun ρ _ hq => ?_
  obtain ⟨s, j, rfl, hj, hm⟩ : prWord ρ := hq
  rw [maxLen_val] at hm
  by_cases hlt : j < s.size
  · simp (disch := omega) only [rt91_0, VT.ok, Nd.holds, X.outs, X.ds, X.d, Op1.ev, Op2.ev, takeD_zero, takeD_cons, List.cons_append, List.nil_append, List.getD_cons_zero, List.getD_cons_succ, D.int_i, D.bool_b, D.str_s, ite_b, ite_or, ite_and, Int.toNat_natCast, implies_true, true_and, F109, R109, F110, R110, ↓reduceIte, dle_t, dlt_t, w64', fn109_eq, fn110_eq, letD, digD, cI, Int.toNat_natCast]
    have hN : wordP s j = false → RoundOk F (R L91_0.key) (fun ρ => (((ρ.getD 0 default).str.size : Int) - (ρ.getD 1 default).int).toNat) L91_0 [.s s, .i (j : Int)] [.i (-1), .i ((j + 1 : Nat) : Int)] := fun hb => by
      refine round_next ⟨⟨s, j + 1, rfl, by omega, hm⟩, ?_, ?_⟩
      · show ((s.size : Int) - ((j + 1 : Nat) : Int)).toNat < ((s.size : Int) - (j : Int)).toNat
        omega
      · show lpWord [.s s, .i ((j + 1 : Nat) : Int)] = lpWord [.s s, .i (j : Int)]
        simp only [lpWord, Int.toNat_natCast]
        exact scan_next hlt hb
    have hX : wordP s j = true → RoundOk F (R L91_0.key) (fun ρ => (((ρ.getD 0 default).str.size : Int) - (ρ.getD 1 default).int).toNat) L91_0 [.s s, .i (j : Int)] [.i 0, .i (j : Int)] := fun hb => by
      refine round_exit (by omega) ?_
      show lpWord [.s s, .i (j : Int)] = _
      simp only [lpWord, Int.toNat_natCast]
      exact scan_hit hlt hb
    have e : wordP s j = !(letB (bt s j) || (decide (0 < (j : Int)) && digB (bt s j))) := rfl
    cases hb : letB (bt s j)
    · cases hb2 : (decide (0 < (j : Int)) && digB (bt s j))
      · rw [hb, hb2] at e
        show if (letB (bt s j) || (decide (0 < (j : Int)) && digB (bt s j))) = true then _ else _
        rw [hb, hb2]
        exact hX e
      · rw [hb, hb2] at e
        show if (letB (bt s j) || (decide (0 < (j : Int)) && digB (bt s j))) = true then _ else _
        rw [hb, hb2]
        exact hN e
    · rw [hb] at e
      show if (letB (bt s j) || (decide (0 < (j : Int)) && digB (bt s j))) = true then _ else _
      rw [hb]
      exact hN e
  · have hj' : j = s.size := by omega
    subst hj'
    simp (disch := omega) only [rt91_0, VT.ok, Nd.holds, X.outs, X.ds, X.d, Op1.ev, Op2.ev, List.cons_append, List.nil_append, List.getD_cons_zero, List.getD_cons_succ, D.int_i, D.bool_b, D.str_s, Int.toNat_natCast, Bool.false_eq_true, implies_true, true_and, false_implies, ↓reduceIte, dle_t, dlt_f]
    refine round_exit (by omega) ?_
    show lpWord [.s s, .i (s.size : Int)] = _
    simp only [lpWord, Int.toNat_natCast]
    exact scan_end
theorem m91 : Meets Try.prog 91 S91 (R 91) (F 91) := by
  refine meets_of_vt (pre := R) (Φ := F) mixed (sgAt_all (P := Try.prog) (pre := R) (Φ := F) (l := sg91) (List.forall_mem_cons.2 ⟨Meets.at (pre := R) (Φ := F) m109, List.forall_mem_cons.2 ⟨Meets.at (pre := R) (Φ := F) m110, (fun _ h => nomatch h)⟩⟩)) Try.func91 b91 n91 (loops_n 1 k91 fun k hk => match k, hk with | 0, _ => loop_this lf91_0 loopM91_0) e91 fun ds hf _ => ?_
  obtain ⟨x, rfl, hx⟩ := fits1 hf.flat
  obtain ⟨s, rfl, hs⟩ := wf_str hx
  have hpre : prWord [.s s, .i 0] := ⟨s, 0, rfl, by omega, hs⟩
  simp only [vt91, VT.ok, Nd.holds, X.outs, X.ds, X.d, List.cons_append, List.nil_append, List.getD_cons_zero, List.getD_cons_succ, D.bool_b, F19100, R19100, F91]
  refine ⟨fun _ => hpre, ?_⟩
  simp only [lpWord, Int.toNat_zero, Nat.sub_zero, scan_fs, wordD, cS, List.getD_cons_zero, D.str_s]
  by_cases h : fs (wordP s) s.size < s.size
  · rw [if_pos h]; rfl
  · have := fs_le (wordP s) s.size
    rw [if_neg h, show fs (wordP s) s.size = s.size by omega]; rfl
theorem m52 : Meets Try.prog 52 S52 (R 52) (F 52) := by
  refine meets_of_vt (pre := R) (Φ := F) mixed (sgAt_all (P := Try.prog) (pre := R) (Φ := F) (l := sg52) (List.forall_mem_cons.2 ⟨Meets.at (pre := R) (Φ := F) m79, List.forall_mem_cons.2 ⟨Meets.at (pre := R) (Φ := F) m80, (fun _ h => nomatch h)⟩⟩)) Try.func52 b52 n52 (loops_n 0 k52 fun k hk => by omega) e52 fun ds hf _ => ?_
  obtain ⟨x, rfl, hx⟩ := fits1 hf.flat
  obtain ⟨s, rfl, hs⟩ := wf_str hx
  simp only [vt52, VT.ok, Nd.holds, X.outs, X.ds, X.d, Op1.ev, Op2.ev, takeD_zero, takeD_cons, List.cons_append, List.nil_append, List.getD_cons_zero, List.getD_cons_succ, D.int_i, D.bool_b, D.str_s, ite_b, ite_and, implies_true, and_true, F79, R79, F80, R80, F52, wordD, cS, fn80_eq, kwD, nameD, isName]
theorem m68 : Meets Try.prog 68 S68 (R 68) (F 68) := by
  refine meets_of_vt (pre := R) (Φ := F) mixed (sgAt_all (P := Try.prog) (pre := R) (Φ := F) (l := sg68) (List.forall_mem_cons.2 ⟨Meets.at (pre := R) (Φ := F) m91, List.forall_mem_cons.2 ⟨Meets.at (pre := R) (Φ := F) m92, (fun _ h => nomatch h)⟩⟩)) Try.func68 b68 n68 (loops_n 0 k68 fun k hk => by omega) e68 fun ds hf _ => ?_
  obtain ⟨x, rfl, hx⟩ := fits1 hf.flat
  obtain ⟨s, rfl, hs⟩ := wf_str hx
  simp only [vt68, VT.ok, Nd.holds, X.outs, X.ds, X.d, Op1.ev, Op2.ev, takeD_zero, takeD_cons, List.cons_append, List.nil_append, List.getD_cons_zero, List.getD_cons_succ, D.int_i, D.bool_b, D.str_s, ite_b, ite_and, implies_true, true_and, F91, R91, F92, R92, F68, wordD, cS, fn92_eq, kwD, nameD, isName]
  rw [Bool.and_right_comm (!(s == _))]
theorem byte_row (s : ByteArray) {j : Nat} (h : j < s.size) : cI (el (s.data.toList.map fun b => [D.i (b.toNat : Int)]) j) 0 = bt s j := by
  have hd : j < s.data.size := h
  have e : s[j]? = some s.data[j] := by
    rw [getElem?_pos s j h]; rfl
  simp only [el, cI, bt, List.getD, List.getElem?_map, Array.getElem?_toList, Array.getElem?_eq_getElem hd, Option.map_some, Option.getD_some, e, List.getElem?_cons_zero]
  rfl
theorem loopM82_0 : LoopMeets Try.prog F (R L82_0.key) L82_0 lb82_0 := by
  refine loop_meets (pre := R) mixed (sgAt_all (P := Try.prog) (pre := R) (Φ := F) (l := sg82) ((fun _ h => nomatch h))) (loops_n 0 lk82_0 fun k hk => by omega) L82_0 (fun ρ => ((ρ.getD 2 default).int - (ρ.getD 3 default).int).toNat) le82_0 fun ρ _ hq => ?_
  obtain ⟨v, bs, j, rfl, hj, hm⟩ : prLab ρ := hq
  rw [maxLen_val] at hm
  by_cases hlt : j < bs.length
  · simp (disch := omega) only [rt82_0, VT.ok, Nd.holds, X.ds, X.d, Op1.ev, Op2.ev, List.getD_cons_zero, List.getD_cons_succ, D.int_i, D.bool_b, D.lst_l, ite_b, ite_or, Int.toNat_natCast, implies_true, true_and, ↓reduceIte, dle_t, dlt_t, w64']
    show if (decide (cI (el bs j) 0 < 32) || decide (126 < cI (el bs j) 0)) = true then _ else _
    cases hb : (decide (cI (el bs j) 0 < 32) || decide (126 < cI (el bs j) 0))
    · simp only [Bool.false_eq_true, if_false]
      refine round_next ⟨⟨v, bs, j + 1, rfl, by omega, hm⟩, ?_, ?_⟩
      · show ((bs.length : Int) - ((j + 1 : Nat) : Int)).toNat < ((bs.length : Int) - (j : Int)).toNat
        omega
      · show lpLab [v, .l bs, .i (bs.length : Int), .i ((j + 1 : Nat) : Int)] = lpLab [v, .l bs, .i (bs.length : Int), .i (j : Int)]
        simp only [lpLab, Int.toNat_natCast]
        exact scan_next hlt hb
    · simp only [if_true]
      refine round_exit (by omega) ?_
      show lpLab [v, .l bs, .i (bs.length : Int), .i (j : Int)] = _
      simp only [lpLab, Int.toNat_natCast]
      exact scan_hit hlt hb
  · have hj' : j = bs.length := by omega
    subst hj'
    simp (disch := omega) only [rt82_0, VT.ok, X.ds, X.d, Op2.ev, List.getD_cons_zero, List.getD_cons_succ, D.int_i, D.bool_b, Bool.false_eq_true, ↓reduceIte, dlt_f]
    refine round_exit (by omega) ?_
    show lpLab [v, .l bs, .i (bs.length : Int), .i (bs.length : Int)] = _
    simp only [lpLab, Int.toNat_natCast]
    exact scan_end
theorem m82 : Meets Try.prog 82 S82 (R 82) (F 82) := by
  refine meets_of_vt (pre := R) (Φ := F) mixed (sgAt_all (P := Try.prog) (pre := R) (Φ := F) (l := sg82) ((fun _ h => nomatch h))) Try.func82 b82 n82 (loops_n 1 k82 fun k hk => match k, hk with | 0, _ => loop_this lf82_0 loopM82_0) e82 fun ds hf _ => ?_
  obtain ⟨x, rfl, hx⟩ := fits1 hf.flat
  obtain ⟨s, rfl, hs⟩ := wf_str hx
  have hlen : (s.data.toList.map fun b => [D.i (b.toNat : Int)]).length = s.size := by simp
  have hpre : prLab [.i 0, .l (s.data.toList.map fun b => [D.i (b.toNat : Int)]), .i (s.size : Int), .i 0] := ⟨.i 0, _, 0, by rw [hlen]; rfl, by omega, by rw [hlen]; exact hs⟩
  have hany : anyN (fun j => decide (cI (el (s.data.toList.map fun b => [D.i (b.toNat : Int)]) j) 0 < 32) || decide (126 < cI (el (s.data.toList.map fun b => [D.i (b.toNat : Int)]) j) 0)) s.size = anyN (lblP s) s.size := anyN_congr fun k hk => by
    rw [byte_row s hk]; rfl
  by_cases h : 32 < (s.size : Int)
  · simp (disch := omega) only [vt82, VT.ok, X.ds, X.d, Op1.ev, Op2.ev, List.getD_cons_zero, D.int_i, D.bool_b, D.str_s, F82, ↓reduceIte, dlt_t, labelD, labelE, cS, if_pos h]
  · simp (disch := omega) only [vt82, VT.ok, Nd.holds, X.outs, X.ds, X.d, Op1.ev, Op2.ev, List.cons_append, List.nil_append, List.getD_cons_zero, List.getD_cons_succ, D.int_i, D.bool_b, D.lst_l, D.str_s, Bool.false_eq_true, F18200, R18200, F82, ↓reduceIte, dlt_f, labelD, labelE, cS, hlen, if_neg h]
    refine ⟨fun _ => hpre, ?_⟩
    simp only [lpLab, hlen, Int.toNat_zero, Nat.sub_zero]
    rcases scan_two (p := fun j => decide (cI (el (s.data.toList.map fun b => [D.i (b.toNat : Int)]) j) 0 < 32) || decide (126 < cI (el (s.data.toList.map fun b => [D.i (b.toNat : Int)]) j) 0)) s.size with ⟨h1, j, _, _, _, h⟩ | ⟨h1, h⟩
    · rw [hany] at h1
      simp only [h, plainB, h1]; rfl
    · rw [hany] at h1
      simp only [h, plainB, h1]; rfl
theorem fn83_eq (ds : List D) : fn83 ds = sizedD ds := by
  show [if decide (1 ≤ cI ds 0) = true then D.b (decide (cI ds 0 ≤ 1048576)) else D.b false] = _
  simp only [ite_b, ite_and]
  rfl
end Go.Proofs.Ytindllmeeckfcaa.rv
namespace Go.Proofs.Ytindllmeeckfcaa.rv
set_option maxRecDepth 10000
open Go.RV
theorem fn105_eq (ds cap : List D) (h : ds.length = 6) (h' : cap.length = 1) : fn105 (ds ++ [.p cap]) = dyNm (.c 105 [.pt [.str]] [.p cap] :: ds) := by
  match ds, h, cap, h' with
  | [a0, a1, a2, a3, a4, a5], _, [b0], _ => rfl
theorem m20039 : Meets Try.prog 20039 S20039 (R 20039) (F 20039) := by
  refine meets_dyn (by decide) rfl fun d ds hf hp => ?_
  obtain ⟨cap, bs, e, hc, ha⟩ : dpNm 105 [.str] 1 6 (d :: ds) := hp
  cases e
  exact ⟨105, [.pt [.str]], [.p cap], S105, _, fn105, rfl, by decide, m105, rfl, rfl, trivial, fn105_eq _ cap ha hc⟩
theorem fn107_eq (ds cap : List D) (h : ds.length = 2) (h' : cap.length = 2) : fn107 (ds ++ [.p cap]) = dyNm (.c 107 [.pt [.str, .int .i64]] [.p cap] :: ds) := by
  match ds, h, cap, h' with
  | [a0, a1], _, [b0, b1], _ => rfl
theorem m20054 : Meets Try.prog 20054 S20054 (R 20054) (F 20054) := by
  refine meets_dyn (by decide) rfl fun d ds hf hp => ?_
  obtain ⟨cap, bs, e, hc, ha⟩ : dpNm 107 [.str, .int .i64] 2 2 (d :: ds) := hp
  cases e
  exact ⟨107, [.pt [.str, .int .i64]], [.p cap], S107, _, fn107, rfl, by decide, m107, rfl, rfl, trivial, fn107_eq _ cap ha hc⟩
theorem fn86_eq (ds cap : List D) (h : ds.length = 2) (h' : cap.length = 2) : fn86 (ds ++ [.p cap]) = dyNm (.c 86 [.pt [.str, .int .i64]] [.p cap] :: ds) := by
  match ds, h, cap, h' with
  | [a0, a1], _, [b0, b1], _ => rfl
theorem m20051 : Meets Try.prog 20051 S20051 (R 20051) (F 20051) := by
  refine meets_dyn (by decide) rfl fun d ds hf hp => ?_
  obtain ⟨cap, bs, e, hc, ha⟩ : dpNm 86 [.str, .int .i64] 2 2 (d :: ds) := hp
  cases e
  exact ⟨86, [.pt [.str, .int .i64]], [.p cap], S86, _, fn86, rfl, by decide, m86, rfl, rfl, trivial, fn86_eq _ cap ha hc⟩
theorem loopM104_0 : LoopMeets Try.prog F (R L104_0.key) L104_0 lb104_0 := by
  refine loop_meets (pre := R) mixed (sgAt_all (P := Try.prog) (pre := R) (Φ := F) (l := sg104) (List.forall_mem_cons.2 ⟨Meets.at (pre := R) (Φ := F) m20039, (fun _ h => nomatch h)⟩)) (loops_n 0 lk104_0 fun k hk => by omega) L104_0 (fun ρ => ((ρ.getD 3 default).int - (ρ.getD 4 default).int).toNat) le104_0 fun ρ _ hq => ?_
  obtain ⟨xs, c, v, j, rfl, hj, hm, hp⟩ : ixPr (dpNm 105 [.str] 1 6) 6 ρ := hq
  rw [maxLen_val] at hm
  by_cases hlt : j < xs.length
  · simp (disch := omega) only [rt104_0, VT.ok, Nd.holds, X.outs, X.ds, X.d, Op1.ev, Op2.ev, List.cons_append, List.nil_append, List.getD_cons_zero, List.getD_cons_succ, D.int_i, D.bool_b, D.lst_l, Int.toNat_natCast, implies_true, true_and, takeD1_0, F20039, R20039, ↓reduceIte, dle_t, dlt_t, w64']
    refine ⟨fun _ => hp j hlt, ?_⟩
    show if ((dyNm (c :: cellsN 6 (el xs j))).getD 0 default).bool = true then _ else _
    cases hb : ((dyNm (c :: cellsN 6 (el xs j))).getD 0 default).bool
    · simp only [Bool.false_eq_true, if_false]
      refine round_next ⟨⟨xs, c, v, j + 1, rfl, by omega, hm, hp⟩, ?_, ?_⟩
      · show ((xs.length : Int) - ((j + 1 : Nat) : Int)).toNat < ((xs.length : Int) - (j : Int)).toNat
        omega
      · show ixLp dyNm 6 [.l xs, c, v, .i (xs.length : Int), .i ((j + 1 : Nat) : Int)] = ixLp dyNm 6 [.l xs, c, v, .i (xs.length : Int), .i (j : Int)]
        simp only [ixLp, Int.toNat_natCast]
        exact scan_next hlt hb
    · simp only [if_true]
      refine round_exit (by omega) ?_
      show ixLp dyNm 6 [.l xs, c, v, .i (xs.length : Int), .i (j : Int)] = _
      simp only [ixLp, Int.toNat_natCast]
      exact scan_hit hlt hb
  · have hj' : j = xs.length := by omega
    subst hj'
    simp (disch := omega) only [rt104_0, VT.ok, X.ds, X.d, Op2.ev, List.getD_cons_zero, List.getD_cons_succ, D.int_i, D.bool_b, Bool.false_eq_true, ↓reduceIte, dlt_f]
    refine round_exit (by omega) ?_
    show ixLp dyNm 6 [.l xs, c, v, .i (xs.length : Int), .i (xs.length : Int)] = _
    simp only [ixLp, Int.toNat_natCast]
    exact scan_end
theorem m104 : Meets Try.prog 104 S104 (R 104) (F 104) := by
  refine meets_of_vt (pre := R) (Φ := F) mixed (sgAt_all (P := Try.prog) (pre := R) (Φ := F) (l := sg104) (List.forall_mem_cons.2 ⟨Meets.at (pre := R) (Φ := F) m20039, (fun _ h => nomatch h)⟩)) Try.func104 b104 n104 (loops_n 1 k104 fun k hk => match k, hk with | 0, _ => loop_this lf104_0 loopM104_0) e104 fun ds hf hq => ?_
  obtain ⟨x, c, rfl, hx, _⟩ := fits2 hf.flat
  obtain ⟨xs, rfl, hm, _⟩ := wf_sl hx
  have hq : ∀ i, i < xs.length → (dpNm 105 [.str] 1 6) (c :: cellsN 6 (el xs i)) := hq
  have hpre : ixPr (dpNm 105 [.str] 1 6) 6 [.l xs, c, .i 0, .i (xs.length : Int), .i 0] := ⟨xs, c, .i 0, 0, rfl, by omega, hm, hq⟩
  simp only [vt104, VT.ok, Nd.holds, X.outs, X.ds, X.d, Op1.ev, Op2.ev, List.cons_append, List.nil_append, List.getD_cons_zero, List.getD_cons_succ, D.int_i, D.bool_b, D.lst_l, F20400, R20400, F104]
  refine ⟨fun _ => hpre, ?_⟩
  simp only [ixLp, ixFn, Int.toNat_zero, Nat.sub_zero, scan_fs, ixI, cL, List.getD_cons_zero, List.getD_cons_succ, D.lst_l]
  split <;> rfl
theorem loopM111_0 : LoopMeets Try.prog F (R L111_0.key) L111_0 lb111_0 := by
  refine loop_meets (pre := R) mixed (sgAt_all (P := Try.prog) (pre := R) (Φ := F) (l := sg111) (List.forall_mem_cons.2 ⟨Meets.at (pre := R) (Φ := F) m20054, (fun _ h => nomatch h)⟩)) (loops_n 0 lk111_0 fun k hk => by omega) L111_0 (fun ρ => ((ρ.getD 3 default).int - (ρ.getD 4 default).int).toNat) le111_0 fun ρ _ hq => ?_
  obtain ⟨xs, c, v, j, rfl, hj, hm, hp⟩ : ixPr (dpNm 107 [.str, .int .i64] 2 2) 2 ρ := hq
  rw [maxLen_val] at hm
  by_cases hlt : j < xs.length
  · simp (disch := omega) only [rt111_0, VT.ok, Nd.holds, X.outs, X.ds, X.d, Op1.ev, Op2.ev, List.cons_append, List.nil_append, List.getD_cons_zero, List.getD_cons_succ, D.int_i, D.bool_b, D.lst_l, Int.toNat_natCast, implies_true, true_and, takeD1_0, F20054, R20054, ↓reduceIte, dle_t, dlt_t, w64']
    refine ⟨fun _ => hp j hlt, ?_⟩
    show if ((dyNm (c :: cellsN 2 (el xs j))).getD 0 default).bool = true then _ else _
    cases hb : ((dyNm (c :: cellsN 2 (el xs j))).getD 0 default).bool
    · simp only [Bool.false_eq_true, if_false]
      refine round_next ⟨⟨xs, c, v, j + 1, rfl, by omega, hm, hp⟩, ?_, ?_⟩
      · show ((xs.length : Int) - ((j + 1 : Nat) : Int)).toNat < ((xs.length : Int) - (j : Int)).toNat
        omega
      · show ixLp dyNm 2 [.l xs, c, v, .i (xs.length : Int), .i ((j + 1 : Nat) : Int)] = ixLp dyNm 2 [.l xs, c, v, .i (xs.length : Int), .i (j : Int)]
        simp only [ixLp, Int.toNat_natCast]
        exact scan_next hlt hb
    · simp only [if_true]
      refine round_exit (by omega) ?_
      show ixLp dyNm 2 [.l xs, c, v, .i (xs.length : Int), .i (j : Int)] = _
      simp only [ixLp, Int.toNat_natCast]
      exact scan_hit hlt hb
  · have hj' : j = xs.length := by omega
    subst hj'
    simp (disch := omega) only [rt111_0, VT.ok, X.ds, X.d, Op2.ev, List.getD_cons_zero, List.getD_cons_succ, D.int_i, D.bool_b, Bool.false_eq_true, ↓reduceIte, dlt_f]
    refine round_exit (by omega) ?_
    show ixLp dyNm 2 [.l xs, c, v, .i (xs.length : Int), .i (xs.length : Int)] = _
    simp only [ixLp, Int.toNat_natCast]
    exact scan_end
theorem m111 : Meets Try.prog 111 S111 (R 111) (F 111) := by
  refine meets_of_vt (pre := R) (Φ := F) mixed (sgAt_all (P := Try.prog) (pre := R) (Φ := F) (l := sg111) (List.forall_mem_cons.2 ⟨Meets.at (pre := R) (Φ := F) m20054, (fun _ h => nomatch h)⟩)) Try.func111 b111 n111 (loops_n 1 k111 fun k hk => match k, hk with | 0, _ => loop_this lf111_0 loopM111_0) e111 fun ds hf hq => ?_
  obtain ⟨x, c, rfl, hx, _⟩ := fits2 hf.flat
  obtain ⟨xs, rfl, hm, _⟩ := wf_sl hx
  have hq : ∀ i, i < xs.length → (dpNm 107 [.str, .int .i64] 2 2) (c :: cellsN 2 (el xs i)) := hq
  have hpre : ixPr (dpNm 107 [.str, .int .i64] 2 2) 2 [.l xs, c, .i 0, .i (xs.length : Int), .i 0] := ⟨xs, c, .i 0, 0, rfl, by omega, hm, hq⟩
  simp only [vt111, VT.ok, Nd.holds, X.outs, X.ds, X.d, Op1.ev, Op2.ev, List.cons_append, List.nil_append, List.getD_cons_zero, List.getD_cons_succ, D.int_i, D.bool_b, D.lst_l, F21100, R21100, F111]
  refine ⟨fun _ => hpre, ?_⟩
  simp only [ixLp, ixFn, Int.toNat_zero, Nat.sub_zero, scan_fs, ixI, cL, List.getD_cons_zero, List.getD_cons_succ, D.lst_l]
  split <;> rfl
theorem loopM108_0 : LoopMeets Try.prog F (R L108_0.key) L108_0 lb108_0 := by
  refine loop_meets (pre := R) mixed (sgAt_all (P := Try.prog) (pre := R) (Φ := F) (l := sg108) (List.forall_mem_cons.2 ⟨Meets.at (pre := R) (Φ := F) m20051, (fun _ h => nomatch h)⟩)) (loops_n 0 lk108_0 fun k hk => by omega) L108_0 (fun ρ => ((ρ.getD 3 default).int - (ρ.getD 4 default).int).toNat) le108_0 fun ρ _ hq => ?_
  obtain ⟨xs, c, v, j, rfl, hj, hm, hp⟩ : ixPr (dpNm 86 [.str, .int .i64] 2 2) 2 ρ := hq
  rw [maxLen_val] at hm
  by_cases hlt : j < xs.length
  · simp (disch := omega) only [rt108_0, VT.ok, Nd.holds, X.outs, X.ds, X.d, Op1.ev, Op2.ev, List.cons_append, List.nil_append, List.getD_cons_zero, List.getD_cons_succ, D.int_i, D.bool_b, D.lst_l, Int.toNat_natCast, implies_true, true_and, takeD1_0, F20051, R20051, ↓reduceIte, dle_t, dlt_t, w64']
    refine ⟨fun _ => hp j hlt, ?_⟩
    show if ((dyNm (c :: cellsN 2 (el xs j))).getD 0 default).bool = true then _ else _
    cases hb : ((dyNm (c :: cellsN 2 (el xs j))).getD 0 default).bool
    · simp only [Bool.false_eq_true, if_false]
      refine round_next ⟨⟨xs, c, v, j + 1, rfl, by omega, hm, hp⟩, ?_, ?_⟩
      · show ((xs.length : Int) - ((j + 1 : Nat) : Int)).toNat < ((xs.length : Int) - (j : Int)).toNat
        omega
      · show ixLp dyNm 2 [.l xs, c, v, .i (xs.length : Int), .i ((j + 1 : Nat) : Int)] = ixLp dyNm 2 [.l xs, c, v, .i (xs.length : Int), .i (j : Int)]
        simp only [ixLp, Int.toNat_natCast]
        exact scan_next hlt hb
    · simp only [if_true]
      refine round_exit (by omega) ?_
      show ixLp dyNm 2 [.l xs, c, v, .i (xs.length : Int), .i (j : Int)] = _
      simp only [ixLp, Int.toNat_natCast]
      exact scan_hit hlt hb
  · have hj' : j = xs.length := by omega
    subst hj'
    simp (disch := omega) only [rt108_0, VT.ok, X.ds, X.d, Op2.ev, List.getD_cons_zero, List.getD_cons_succ, D.int_i, D.bool_b, Bool.false_eq_true, ↓reduceIte, dlt_f]
    refine round_exit (by omega) ?_
    show ixLp dyNm 2 [.l xs, c, v, .i (xs.length : Int), .i (xs.length : Int)] = _
    simp only [ixLp, Int.toNat_natCast]
    exact scan_end
theorem m108 : Meets Try.prog 108 S108 (R 108) (F 108) := by
  refine meets_of_vt (pre := R) (Φ := F) mixed (sgAt_all (P := Try.prog) (pre := R) (Φ := F) (l := sg108) (List.forall_mem_cons.2 ⟨Meets.at (pre := R) (Φ := F) m20051, (fun _ h => nomatch h)⟩)) Try.func108 b108 n108 (loops_n 1 k108 fun k hk => match k, hk with | 0, _ => loop_this lf108_0 loopM108_0) e108 fun ds hf hq => ?_
  obtain ⟨x, c, rfl, hx, _⟩ := fits2 hf.flat
  obtain ⟨xs, rfl, hm, _⟩ := wf_sl hx
  have hq : ∀ i, i < xs.length → (dpNm 86 [.str, .int .i64] 2 2) (c :: cellsN 2 (el xs i)) := hq
  have hpre : ixPr (dpNm 86 [.str, .int .i64] 2 2) 2 [.l xs, c, .i 0, .i (xs.length : Int), .i 0] := ⟨xs, c, .i 0, 0, rfl, by omega, hm, hq⟩
  simp only [vt108, VT.ok, Nd.holds, X.outs, X.ds, X.d, Op1.ev, Op2.ev, List.cons_append, List.nil_append, List.getD_cons_zero, List.getD_cons_succ, D.int_i, D.bool_b, D.lst_l, F20800, R20800, F108]
  refine ⟨fun _ => hpre, ?_⟩
  simp only [ixLp, ixFn, Int.toNat_zero, Nat.sub_zero, scan_fs, ixI, cL, List.getD_cons_zero, List.getD_cons_succ, D.lst_l]
  split <;> rfl
theorem m106 : Meets Try.prog 106 S106 (R 106) (F 106) := by
  refine meets_of_vt (pre := R) (Φ := F) mixed (sgAt_all (P := Try.prog) (pre := R) (Φ := F) (l := sg106) (List.forall_mem_cons.2 ⟨Meets.at (pre := R) (Φ := F) m111, (fun _ h => nomatch h)⟩)) Try.func106 b106 n106 (loops_n 0 k106 fun k hk => by omega) e106 fun ds hf hq => ?_
  obtain ⟨x, c, rfl, hx, _⟩ := fits2 hf.flat
  simp only [vt106, VT.ok, Nd.holds, X.outs, X.ds, X.d, Op2.ev, takeD_zero, takeD_cons, List.cons_append, List.nil_append, List.getD_cons_zero, List.getD_cons_succ, D.int_i, D.bool_b, and_true, F111, R111, F106, ixFn, cfFn, ixI_any]
  exact fun _ => hq
theorem m85 : Meets Try.prog 85 S85 (R 85) (F 85) := by
  refine meets_of_vt (pre := R) (Φ := F) mixed (sgAt_all (P := Try.prog) (pre := R) (Φ := F) (l := sg85) (List.forall_mem_cons.2 ⟨Meets.at (pre := R) (Φ := F) m108, (fun _ h => nomatch h)⟩)) Try.func85 b85 n85 (loops_n 0 k85 fun k hk => by omega) e85 fun ds hf hq => ?_
  obtain ⟨x, c, rfl, hx, _⟩ := fits2 hf.flat
  simp only [vt85, VT.ok, Nd.holds, X.outs, X.ds, X.d, Op2.ev, takeD_zero, takeD_cons, List.cons_append, List.nil_append, List.getD_cons_zero, List.getD_cons_succ, D.int_i, D.bool_b, and_true, F108, R108, F85, ixFn, cfFn, ixI_any]
  exact fun _ => hq
theorem loopM90_0 : LoopMeets Try.prog F (R L90_0.key) L90_0 lb90_0 := by
  refine loop_meets (pre := R) mixed (sgAt_all (P := Try.prog) (pre := R) (Φ := F) (l := sg90) ((fun _ h => nomatch h))) (loops_n 0 lk90_0 fun k hk => by omega) L90_0 (fun ρ => ((ρ.getD 3 default).int - (ρ.getD 4 default).int).toNat) le90_0 fun ρ _ hq => ?_
  obtain ⟨xs, m, v, j, rfl, hj, hm⟩ : iiPr ρ := hq
  rw [maxLen_val] at hm
  by_cases hlt : j < xs.length
  · simp (disch := omega) only [rt90_0, VT.ok, Nd.holds, X.ds, X.d, Op1.ev, Op2.ev, List.getD_cons_zero, List.getD_cons_succ, D.int_i, D.bool_b, D.lst_l, Int.toNat_natCast, implies_true, true_and, ↓reduceIte, dle_t, dlt_t, w64']
    show if (m == cI (el xs j) 0) = true then _ else _
    cases hb : (m == cI (el xs j) 0)
    · simp only [Bool.false_eq_true, if_false]
      refine round_next ⟨⟨xs, m, v, j + 1, rfl, by omega, hm⟩, ?_, ?_⟩
      · show ((xs.length : Int) - ((j + 1 : Nat) : Int)).toNat < ((xs.length : Int) - (j : Int)).toNat
        omega
      · show iiLp [.l xs, .i m, v, .i (xs.length : Int), .i ((j + 1 : Nat) : Int)] = iiLp [.l xs, .i m, v, .i (xs.length : Int), .i (j : Int)]
        simp only [iiLp, Int.toNat_natCast]
        exact scan_next hlt hb
    · simp only [if_true]
      refine round_exit (by omega) ?_
      show iiLp [.l xs, .i m, v, .i (xs.length : Int), .i (j : Int)] = _
      simp only [iiLp, Int.toNat_natCast]
      exact scan_hit hlt hb
  · have hj' : j = xs.length := by omega
    subst hj'
    simp (disch := omega) only [rt90_0, VT.ok, X.ds, X.d, Op2.ev, List.getD_cons_zero, List.getD_cons_succ, D.int_i, D.bool_b, Bool.false_eq_true, ↓reduceIte, dlt_f]
    refine round_exit (by omega) ?_
    show iiLp [.l xs, .i m, v, .i (xs.length : Int), .i (xs.length : Int)] = _
    simp only [iiLp, Int.toNat_natCast]
    exact scan_end
theorem m90 : Meets Try.prog 90 S90 (R 90) (F 90) := by
  refine meets_of_vt (pre := R) (Φ := F) mixed (sgAt_all (P := Try.prog) (pre := R) (Φ := F) (l := sg90) ((fun _ h => nomatch h))) Try.func90 b90 n90 (loops_n 1 k90 fun k hk => match k, hk with | 0, _ => loop_this lf90_0 loopM90_0) e90 fun ds hf hq => ?_
  obtain ⟨x, y, rfl, hx, hy⟩ := fits2 hf.flat
  obtain ⟨xs, rfl, hm, _⟩ := wf_sl hx
  obtain ⟨m, rfl, _⟩ := wf_i64 hy
  have hpre : iiPr [.l xs, .i m, .i 0, .i (xs.length : Int), .i 0] := ⟨xs, m, .i 0, 0, rfl, by omega, hm⟩
  simp only [vt90, VT.ok, Nd.holds, X.outs, X.ds, X.d, Op1.ev, Op2.ev, List.cons_append, List.nil_append, List.getD_cons_zero, List.getD_cons_succ, D.int_i, D.bool_b, D.lst_l, F19000, R19000, F90]
  refine ⟨fun _ => hpre, ?_⟩
  simp only [iiLp, iiFn, Int.toNat_zero, Nat.sub_zero, scan_fs, ixI, cL, cI, List.getD_cons_zero, List.getD_cons_succ, D.lst_l, D.int_i]
  split <;> rfl
theorem m61 : Meets Try.prog 61 S61 (R 61) (F 61) := by
  refine meets_of_vt (pre := R) (Φ := F) mixed (sgAt_all (P := Try.prog) (pre := R) (Φ := F) (l := sg61) (List.forall_mem_cons.2 ⟨Meets.at (pre := R) (Φ := F) m90, (fun _ h => nomatch h)⟩)) Try.func61 b61 n61 (loops_n 0 k61 fun k hk => by omega) e61 fun ds hf hq => ?_
  obtain ⟨x, y, rfl, hx, hy⟩ := fits2 hf.flat
  simp only [vt61, VT.ok, Nd.holds, X.outs, X.ds, X.d, Op2.ev, takeD_zero, takeD_cons, List.cons_append, List.nil_append, List.getD_cons_zero, List.getD_cons_succ, D.int_i, D.bool_b, implies_true, and_true, F90, R90, F61, iiFn, ciFn, ixI_any]
end Go.Proofs.Ytindllmeeckfcaa.rv
namespace Go.Proofs.Ytindllmeeckfcaa.rv
set_option maxRecDepth 10000
open Go.RV
theorem m81 : Meets Try.prog 81 S81 (R 81) (F 81) := by
  refine meets_of_vt (pre := R) (Φ := F) mixed (sgAt_all (P := Try.prog) (pre := R) (Φ := F) (l := sg81) (List.forall_mem_cons.2 ⟨Meets.at (pre := R) (Φ := F) m104, (fun _ h => nomatch h)⟩)) Try.func81 b81 n81 (loops_n 0 k81 fun k hk => by omega) e81 fun ds hf _ => ?_
  obtain ⟨g, ds', rfl, h5, _⟩ := fitsG hf.flat
  obtain ⟨x, rfl, hx⟩ := fits1 h5
  obtain ⟨nm, rfl, _⟩ := wf_str hx
  simp only [vt81, VT.ok, Nd.holds, X.outs, X.ds, X.d, List.cons_append, List.nil_append, List.getD_cons_zero, List.getD_cons_succ, D.bool_b, takeD1_0, F104, R104, F81]
  exact ⟨fun _ i _ => ⟨[.s nm], cellsN 6 (el g.N i), rfl, rfl, cellsN_length 6 _⟩, rfl⟩
theorem loopM93_0 : LoopMeets Try.prog F (R L93_0.key) L93_0 lb93_0 := by
  refine loop_meets (pre := R) mixed (sgAt_all (P := Try.prog) (pre := R) (Φ := F) (l := sg93) ((fun _ h => nomatch h))) (loops_n 0 lk93_0 fun k hk => by omega) L93_0 (fun ρ => (((ρ.getD 5 default).lst.length : Int) - (ρ.getD 2 default).int).toNat) le93_0 fun ρ _ hq => ?_
  obtain ⟨nm, v, g, j, rfl, hj, hm⟩ : prFind ρ := hq
  rw [maxLen_val] at hm
  by_cases hlt : j < g.N.length
  · simp (disch := omega) only [rt93_0, VT.ok, Nd.holds, X.ds, X.d, Op1.ev, Op2.ev, List.getD_cons_zero, List.getD_cons_succ, D.int_i, D.bool_b, D.lst_l, D.str_s, Int.toNat_natCast, implies_true, true_and, ↓reduceIte, dle_t, dlt_t, w64']
    show if nmP g.N nm j = true then _ else _
    cases hb : nmP g.N nm j
    · simp only [Bool.false_eq_true, if_false]
      refine round_next ⟨⟨nm, v, g, j + 1, rfl, by omega, hm⟩, ?_, ?_⟩
      · show ((g.N.length : Int) - ((j + 1 : Nat) : Int)).toNat < ((g.N.length : Int) - (j : Int)).toNat
        omega
      · show lpFind [.s nm, v, .i ((j + 1 : Nat) : Int), .s g.nm, .b g.dr, .l g.N, .l g.E, .l g.C] = lpFind [.s nm, v, .i (j : Int), .s g.nm, .b g.dr, .l g.N, .l g.E, .l g.C]
        simp only [lpFind, Int.toNat_natCast]
        exact scan_next hlt hb
    · simp only [if_true]
      refine round_exit (by omega) ?_
      show lpFind [.s nm, v, .i (j : Int), .s g.nm, .b g.dr, .l g.N, .l g.E, .l g.C] = _
      simp only [lpFind, Int.toNat_natCast]
      exact scan_hit hlt hb
  · have hj' : j = g.N.length := by omega
    subst hj'
    simp (disch := omega) only [rt93_0, VT.ok, X.ds, X.d, Op1.ev, Op2.ev, List.getD_cons_zero, List.getD_cons_succ, D.int_i, D.bool_b, D.lst_l, Bool.false_eq_true, ↓reduceIte, dlt_f]
    refine round_exit (by omega) ?_
    show lpFind [.s nm, v, .i (g.N.length : Int), .s g.nm, .b g.dr, .l g.N, .l g.E, .l g.C] = _
    simp only [lpFind, Int.toNat_natCast]
    exact scan_end
theorem m93 : Meets Try.prog 93 S93 (R 93) (F 93) := by
  refine meets_of_vt (pre := R) (Φ := F) mixed (sgAt_all (P := Try.prog) (pre := R) (Φ := F) (l := sg93) ((fun _ h => nomatch h))) Try.func93 b93 n93 (loops_n 1 k93 fun k hk => match k, hk with | 0, _ => loop_this lf93_0 loopM93_0) e93 fun ds hf _ => ?_
  obtain ⟨g, ds', rfl, h5, _, ⟨hm, _⟩, _⟩ := fitsG hf.flat
  obtain ⟨x, rfl, hx⟩ := fits1 h5
  obtain ⟨nm, rfl, _⟩ := wf_str hx
  have hpre : prFind [.s nm, .i 0, .i 0, .s g.nm, .b g.dr, .l g.N, .l g.E, .l g.C] := ⟨nm, _, g, 0, rfl, by omega, hm⟩
  simp only [vt93, VT.ok, Nd.holds, X.outs, X.ds, X.d, Op2.ev, List.cons_append, List.nil_append, List.getD_cons_zero, List.getD_cons_succ, D.int_i, D.bool_b, F19300, R19300, F93]
  refine ⟨fun _ => hpre, ?_⟩
  simp only [lpFind, findD, find, Int.toNat_zero, Nat.sub_zero, scan_fs, ixI, cL, cS, List.getD_cons_zero, List.getD_cons_succ, D.lst_l, D.str_s]
  split <;> rfl
theorem el_take {xs : List (List D)} {i j : Nat} (h : i < j) : el (xs.take j) i = el xs i := by
  simp only [el, List.getD, List.getElem?_take, if_pos h]
theorem any_take {xs : List (List D)} {nm : ByteArray} {j : Nat} (h : j ≤ xs.length) : anyN (nmP (xs.take j) nm) (xs.take j).length = anyN (nmP xs nm) j := by
  rw [List.length_take, Nat.min_eq_left h]
  exact anyN_congr fun k hk => by simp only [nmP, el_take hk]
theorem loopM84_0 : LoopMeets Try.prog F (R L84_0.key) L84_0 lb84_0 := by
  refine loop_meets (pre := R) mixed (sgAt_all (P := Try.prog) (pre := R) (Φ := F) (l := sg84) (List.forall_mem_cons.2 ⟨Meets.at (pre := R) (Φ := F) m52, List.forall_mem_cons.2 ⟨Meets.at (pre := R) (Φ := F) m106, (fun _ h => nomatch h)⟩⟩)) (loops_n 0 lk84_0 fun k hk => by omega) L84_0 (fun ρ => ((ρ.getD 3 default).int - (ρ.getD 4 default).int).toNat) le84_0 fun ρ _ hq => ?_
  obtain ⟨xs, v, j, rfl, hj, hm⟩ : prPorts ρ := hq
  rw [maxLen_val] at hm
  by_cases hlt : j < xs.length
  · have hN : portE xs j = 0 → RoundOk F (R L84_0.key) (fun ρ => ((ρ.getD 3 default).int - (ρ.getD 4 default).int).toNat) L84_0 [.l xs, v, .l xs, .i (xs.length : Int), .i (j : Int)] [.i (-1), v, .i ((j + 1 : Nat) : Int)] := fun h0 => by
      refine round_next ⟨⟨xs, v, j + 1, rfl, by omega, hm⟩, ?_, ?_⟩
      · show ((xs.length : Int) - ((j + 1 : Nat) : Int)).toNat < ((xs.length : Int) - (j : Int)).toNat
        omega
      · show lpPorts [.l xs, v, .l xs, .i (xs.length : Int), .i ((j + 1 : Nat) : Int)] = lpPorts [.l xs, v, .l xs, .i (xs.length : Int), .i (j : Int)]
        simp only [lpPorts, errLp, Int.toNat_natCast]
        exact scan_next hlt (by simp only [er, h0]; rfl)
    have hX : ∀ z : Int, portE xs j = z → z ≠ 0 → RoundOk F (R L84_0.key) (fun ρ => ((ρ.getD 3 default).int - (ρ.getD 4 default).int).toNat) L84_0 [.l xs, v, .l xs, .i (xs.length : Int), .i (j : Int)] [.i 0, .i z, .i (j : Int)] := fun z h0 hz => by
      refine round_exit (by omega) ?_
      show lpPorts [.l xs, v, .l xs, .i (xs.length : Int), .i (j : Int)] = _
      simp only [lpPorts, errLp, Int.toNat_natCast]
      rw [← h0]
      exact scan_hit hlt (by simp only [er, h0]; simpa using hz)
    simp (disch := omega) only [rt84_0, VT.ok, Nd.holds, X.outs, X.ds, X.d, Op1.ev, Op2.ev, takeD_zero, takeD_cons, List.cons_append, List.nil_append, List.getD_cons_zero, List.getD_cons_succ, D.int_i, D.bool_b, D.lst_l, ite_b, ite_or, Int.toNat_natCast, implies_true, true_and, takeD1_0, F52, R52, F106, R106, ↓reduceIte, dle_t, dlt_t, w64', nameD, cS]
    cases h1 : isName (cS (el xs j) 0)
    · simp only [Bool.not_false, if_true]
      exact hX 5 (by simp only [portE, h1, Bool.false_eq_true, if_false]) (by omega)
    · simp only [Bool.not_true, Bool.false_eq_true, if_false]
      refine ⟨fun _ i _ => ⟨_, cellsN 2 _, rfl, rfl, cellsN_length 2 _⟩, ?_⟩
      show if anyN (nmP (xs.take j) (cS (el xs j) 0)) (xs.take j).length = true then _ else _
      rw [any_take hj]
      cases h2 : anyN (nmP xs (cS (el xs j) 0)) j
      · simp only [Bool.false_eq_true, if_false]
        by_cases h3 : cI (el xs j) 1 < 0 ∨ 3 < cI (el xs j) 1
        · rw [if_pos (by exact dor_t h3)]
          exact hX 7 (by simp only [portE, h1, h2, if_true, Bool.false_eq_true, if_false, if_pos h3]) (by omega)
        · rw [if_neg (by exact dor_f h3)]
          exact hN (by simp only [portE, h1, h2, if_true, Bool.false_eq_true, if_false, if_neg h3])
      · simp only [if_true]
        exact hX 6 (by simp only [portE, h1, h2, if_true]) (by omega)
  · have hj' : j = xs.length := by omega
    subst hj'
    simp (disch := omega) only [rt84_0, VT.ok, X.ds, X.d, Op2.ev, List.getD_cons_zero, List.getD_cons_succ, D.int_i, D.bool_b, Bool.false_eq_true, ↓reduceIte, dlt_f]
    refine round_exit (by omega) ?_
    show lpPorts [.l xs, v, .l xs, .i (xs.length : Int), .i (xs.length : Int)] = _
    simp only [lpPorts, errLp, Int.toNat_natCast]
    exact scan_end
theorem m84 : Meets Try.prog 84 S84 (R 84) (F 84) := by
  refine meets_of_vt (pre := R) (Φ := F) mixed (sgAt_all (P := Try.prog) (pre := R) (Φ := F) (l := sg84) (List.forall_mem_cons.2 ⟨Meets.at (pre := R) (Φ := F) m52, List.forall_mem_cons.2 ⟨Meets.at (pre := R) (Φ := F) m106, (fun _ h => nomatch h)⟩⟩)) Try.func84 b84 n84 (loops_n 1 k84 fun k hk => match k, hk with | 0, _ => loop_this lf84_0 loopM84_0) e84 fun ds hf _ => ?_
  obtain ⟨x, rfl, hx⟩ := fits1 hf.flat
  obtain ⟨xs, rfl, hm, _⟩ := wf_sl hx
  have hpre : prPorts [.l xs, .i 0, .l xs, .i (xs.length : Int), .i 0] := ⟨xs, _, 0, rfl, by omega, hm⟩
  by_cases h : 8 < (xs.length : Int)
  · simp (disch := omega) only [vt84, VT.ok, X.ds, X.d, Op1.ev, Op2.ev, List.getD_cons_zero, D.int_i, D.bool_b, D.lst_l, F84, ↓reduceIte, dlt_t, ports8D, ports8, cL, if_pos h]
  · simp (disch := omega) only [vt84, VT.ok, Nd.holds, X.outs, X.ds, X.d, Op1.ev, Op2.ev, List.cons_append, List.nil_append, List.getD_cons_zero, List.getD_cons_succ, D.int_i, D.bool_b, D.lst_l, Bool.false_eq_true, F18400, R18400, F84, ↓reduceIte, dlt_f, ports8D, ports8, cL, if_neg h]
    refine ⟨fun _ => hpre, ?_⟩
    simp only [lpPorts, Int.toNat_zero, portsE]
    rcases errLp_two (portE xs) (.i 0) xs.length with ⟨h1, h2⟩ | ⟨h1, _, h2⟩ <;> simp (disch := omega) only [h1, h2, takeD_zero, takeD_cons, List.getD_cons_zero, List.getD_cons_succ, D.int_i, Bool.false_eq_true, ↓reduceIte, beq_t, beq_f]
end Go.Proofs.Ytindllmeeckfcaa.rv
namespace Go.Proofs.Ytindllmeeckfcaa.rv
set_option maxRecDepth 10000
open Go.RV
theorem if4 (a b c d : Bool) (p : Int) : if (!a || !b || c || d) = true then [D.i 3] = [D.i (if (a && b && !c && !d) = true then p else 3)] else [D.i p] = [D.i (if (a && b && !c && !d) = true then p else 3)] := by
  cases a <;> cases b <;> cases c <;> cases d <;> rfl
theorem m53 : Meets Try.prog 53 S53 (R 53) (F 53) := by
  refine meets_of_vt (pre := R) (Φ := F) mixed (sgAt_all (P := Try.prog) (pre := R) (Φ := F) (l := sg53) (List.forall_mem_cons.2 ⟨Meets.at (pre := R) (Φ := F) m52, List.forall_mem_cons.2 ⟨Meets.at (pre := R) (Φ := F) m81, List.forall_mem_cons.2 ⟨Meets.at (pre := R) (Φ := F) m82, List.forall_mem_cons.2 ⟨Meets.at (pre := R) (Φ := F) m83, List.forall_mem_cons.2 ⟨Meets.at (pre := R) (Φ := F) m84, (fun _ h => nomatch h)⟩⟩⟩⟩⟩)) Try.func53 b53 n53 (loops_n 0 k53 fun k hk => by omega) e53 fun ds hf hq => ?_
  obtain ⟨g, ds', rfl, h5, _, ⟨hmN, hN⟩, _⟩ := fitsG hf.flat
  obtain ⟨x, rfl, hx⟩ := fits1 h5
  obtain ⟨i, e, hi⟩ : prNode (.s g.nm :: .b g.dr :: .l g.N :: .l g.E :: .l g.C :: [x]) := hq
  have e : x = .i (i : Int) := e
  subst e
  have hi : i < g.N.length := hi
  simp (disch := omega) only [vt53, VT.ok, Nd.holds, X.outs, X.ds, X.d, Op1.ev, Op2.ev, takeD_zero, takeD_cons, List.cons_append, List.nil_append, List.getD_cons_zero, List.getD_cons_succ, D.int_i, D.bool_b, D.lst_l, ite_b, ite_or, Int.toNat_natCast, implies_true, true_and, F52, R52, F81, R81, F82, R82, F83, R83, F84, R84, F53, dle_t, dlt_t, nameD, findD, labelD, fn83_eq, sizedD, ports8D, nodeD, nodeE, cS, cI, cL, Int.toNat_natCast]
  cases h1 : isName (cS (el g.N i) 0)
  · simp only [Bool.not_false, if_true, Bool.false_eq_true, if_false]
  · simp only [Bool.not_true, if_true, Bool.false_eq_true, if_false]
    by_cases h2 : find g.N (cS (el g.N i) 0) < i
    · rw [if_pos (by exact dec_t h2), if_pos h2]
    · rw [if_neg (by exact dec_f h2), if_neg h2]
      by_cases h3 : labelE (cS (el g.N i) 1) = 0
      · rw [if_neg (by exact bne_f h3), if_pos h3]
        exact if4 _ _ _ _ _
      · rw [if_pos (by exact bne_t h3), if_neg h3]
end Go.Proofs.Ytindllmeeckfcaa.rv
namespace Go.Proofs.Ytindllmeeckfcaa.rv
set_option maxRecDepth 10000
open Go.RV
theorem up_fuel {C : List (List D)} : ∀ (f f' : Nat) (c : Int), c < f → c < f' → okC C (c + 1).toNat → up C f c = up C f' c
  | 0, 0, _, _, _, _ => rfl
  | 0, f' + 1, c, h, _, _ => by simp only [up]; rw [if_neg (by omega)]
  | f + 1, 0, c, _, h, _ => by simp only [up]; rw [if_neg (by omega)]
  | f + 1, f' + 1, c, h, h', hok => by
    simp only [up]
    by_cases h0 : 0 ≤ c
    · rw [if_pos h0, if_pos h0]
      have := hok c.toNat (by omega)
      rw [up_fuel f f' _ (by omega) (by omega) (hok.mono (by omega))]
    · rw [if_neg h0, if_neg h0]
theorem around_neg {C : List (List D)} {c : Int} (h : c < 0) : around C c = [] := by
  unfold around up; rw [if_neg (by omega)]
theorem around_at {C : List (List D)} {c : Int} (h0 : 0 ≤ c) (hok : okC C (c + 1).toNat) : around C c = c :: around C (cI (el C c.toNat) 1) := by
  have hb := hok c.toNat (by omega)
  unfold around
  simp only [up]
  rw [if_pos h0]
  congr 1
  exact up_fuel c.toNat ((cI (el C c.toNat) 1).toNat + 1) (cI (el C c.toNat) 1) (by omega) (by omega) (hok.mono (m := (cI (el C c.toNat) 1 + 1).toNat) (by omega))
theorem atC_up {C : List (List D)} {c : Int} (h : atC C c) (h0 : 0 ≤ c) : atC C (cI (el C c.toNat) 1) := by
  obtain ⟨h1, h2, h3, h4⟩ := h
  have hb := h4 c.toNat (by omega)
  exact ⟨by omega, by omega, h3, h4.mono (m := (cI (el C c.toNat) 1 + 1).toNat) (by omega)⟩
theorem rowI1_of {C : List (List D)} (h : ∀ x ∈ C, FitsF [.str, .int .i64] x) : rowI1 C := fun i hi => by
  have hx := h (el C i) (getD_mem [] hi)
  obtain ⟨a, b, e, _, hb⟩ := fits2 hx
  obtain ⟨z, rfl, _⟩ := wf_i64 hb
  simp only [cI, e]; rfl
theorem loopM89_0 : LoopMeets Try.prog F (R L89_0.key) L89_0 lb89_0 := by
  refine loop_meets (pre := R) mixed (sgAt_all (P := Try.prog) (pre := R) (Φ := F) (l := sg89) ((fun _ h => nomatch h))) (loops_n 0 lk89_0 fun k hk => by omega) L89_0 (fun ρ => ((ρ.getD 0 default).int + 1).toNat) le89_0 fun ρ _ hq => ?_
  obtain ⟨c, g, acc, rfl, hat, hrow, hacc⟩ : prArL ρ := hq
  have hat0 := hat
  obtain ⟨h1, h2, h3, h4⟩ := hat
  by_cases h0 : 0 ≤ c
  · have hn : c.toNat < g.C.length := by omega
    have hr : (g.C.getD c.toNat []).getD 1 default = .i (cI (el g.C c.toNat) 1) := hrow _ hn
    have hb := h4 c.toNat (by omega)
    simp (disch := omega) only [rt89_0, VT.ok, Nd.holds, X.ds, X.d, Op1.ev, Op2.ev, List.getD_cons_zero, List.getD_cons_succ, D.int_i, D.bool_b, D.lst_l, implies_true, true_and, ↓reduceIte, dle_t, dlt_t, hr, List.length_append, List.length_cons, List.length_nil]
    refine round_next ⟨⟨cI (el g.C c.toNat) 1, g, acc ++ [[.i c]], rfl, atC_up hat0 h0, hrow, by rw [List.length_append, List.length_cons, List.length_nil]; omega⟩, ?_, ?_⟩
    · show (cI (el g.C c.toNat) 1 + 1).toNat < (c + 1).toNat
      omega
    · show lpAr [.i (cI (el g.C c.toNat) 1), .s g.nm, .b g.dr, .l g.N, .l g.E, .l g.C, .l (acc ++ [[.i c]])] = lpAr [.i c, .s g.nm, .b g.dr, .l g.N, .l g.E, .l g.C, .l acc]
      simp only [lpAr, around_at h0 h4, List.map_cons, List.append_assoc, List.cons_append, List.nil_append]
      rfl
  · simp (disch := omega) only [rt89_0, VT.ok, X.ds, X.d, Op2.ev, List.getD_cons_zero, List.getD_cons_succ, D.int_i, D.bool_b, Bool.false_eq_true, ↓reduceIte, dle_f]
    refine round_exit (by omega) ?_
    show lpAr [.i c, .s g.nm, .b g.dr, .l g.N, .l g.E, .l g.C, .l acc] = _
    have : c = -1 := by omega
    subst this
    simp only [lpAr, around_neg (show (-1 : Int) < 0 by omega), List.map_nil, List.append_nil]
theorem m89 : Meets Try.prog 89 S89 (R 89) (F 89) := by
  refine meets_of_vt (pre := R) (Φ := F) mixed (sgAt_all (P := Try.prog) (pre := R) (Φ := F) (l := sg89) ((fun _ h => nomatch h))) Try.func89 b89 n89 (loops_n 1 k89 fun k hk => match k, hk with | 0, _ => loop_this lf89_0 loopM89_0) e89 fun ds hf hq => ?_
  obtain ⟨g, ds', rfl, h5, _, _, _, ⟨_, hC⟩⟩ := fitsG hf.flat
  obtain ⟨x, rfl, hx⟩ := fits1 h5
  obtain ⟨c, rfl, _⟩ := wf_i64 hx
  have hq : atC g.C c := hq
  have hpre : prArL [.i c, .s g.nm, .b g.dr, .l g.N, .l g.E, .l g.C, .l []] := ⟨c, g, [], rfl, hq, rowI1_of hC, by have := hq.1; have := hq.2.1; have := hq.2.2.1; simp; omega⟩
  simp only [vt89, VT.ok, Nd.holds, X.outs, X.ds, X.d, takeD_zero, takeD_cons, List.cons_append, List.nil_append, List.getD_cons_zero, List.getD_cons_succ, D.int_i, D.bool_b, D.lst_l, and_true, F18900, R18900, F89, lpAr, aroundD, cL, cI]
  exact fun _ => hpre
theorem m87 : Meets Try.prog 87 S87 (R 87) (F 87) := by
  refine meets_of_vt (pre := R) (Φ := F) mixed (sgAt_all (P := Try.prog) (pre := R) (Φ := F) (l := sg87) (List.forall_mem_cons.2 ⟨Meets.at (pre := R) (Φ := F) m89, (fun _ h => nomatch h)⟩)) Try.func87 b87 n87 (loops_n 0 k87 fun k hk => by omega) e87 fun ds hf hq => ?_
  obtain ⟨g, ds', rfl, h5, _⟩ := fitsG hf.flat
  obtain ⟨x, rfl, hx⟩ := fits1 h5
  simp only [vt87, VT.ok, Nd.holds, X.outs, X.ds, X.d, Op1.ev, takeD_zero, takeD_cons, List.cons_append, List.nil_append, List.getD_cons_zero, List.getD_cons_succ, D.bool_b, D.lst_l, List.length_map, and_true, F89, R89, F87, aroundD, depthD, depth, cL, cI]
  exact fun _ => hq
theorem depth_at {C : List (List D)} {c : Int} (h0 : 0 ≤ c) (hok : okC C (c + 1).toNat) : depth C c = depth C (cI (el C c.toNat) 1) + 1 := by
  unfold depth; rw [around_at h0 hok]; simp
theorem depth_neg {C : List (List D)} {c : Int} (h : c < 0) : depth C c = 0 := by unfold depth; rw [around_neg h]; rfl
theorem loopM96_0 : LoopMeets Try.prog F (R L96_0.key) L96_0 lb96_0 := by
  refine loop_meets (pre := R) mixed (sgAt_all (P := Try.prog) (pre := R) (Φ := F) (l := sg96) ((fun _ h => nomatch h))) (loops_n 0 lk96_0 fun k hk => by omega) L96_0 (fun ρ => ((ρ.getD 0 default).int + 1).toNat) le96_0 fun ρ _ hq => ?_
  obtain ⟨c, n, g, rfl, hat, hrow, hn0, hacc⟩ : prDep ρ := hq
  have hat0 := hat
  obtain ⟨h1, h2, h3, h4⟩ := hat
  by_cases h0 : 0 ≤ c
  · have hn : c.toNat < g.C.length := by omega
    have hr : (g.C.getD c.toNat []).getD 1 default = .i (cI (el g.C c.toNat) 1) := hrow _ hn
    have hb := h4 c.toNat (by omega)
    simp (disch := omega) only [rt96_0, VT.ok, Nd.holds, X.ds, X.d, Op1.ev, Op2.ev, List.getD_cons_zero, List.getD_cons_succ, D.int_i, D.bool_b, D.lst_l, implies_true, true_and, ↓reduceIte, dle_t, dlt_t, w64', hr]
    refine round_next ⟨⟨cI (el g.C c.toNat) 1, n + 1, g, rfl, atC_up hat0 h0, hrow, by omega, by omega⟩, ?_, ?_⟩
    · show (cI (el g.C c.toNat) 1 + 1).toNat < (c + 1).toNat
      omega
    · show lpDep [.i (cI (el g.C c.toNat) 1), .i (n + 1), .s g.nm, .b g.dr, .l g.N, .l g.E, .l g.C] = lpDep [.i c, .i n, .s g.nm, .b g.dr, .l g.N, .l g.E, .l g.C]
      simp only [lpDep, depth_at h0 h4]
      rw [show n + 1 + depth g.C (cI (el g.C c.toNat) 1) = n + (depth g.C (cI (el g.C c.toNat) 1) + 1) by omega]
  · simp (disch := omega) only [rt96_0, VT.ok, X.ds, X.d, Op2.ev, List.getD_cons_zero, List.getD_cons_succ, D.int_i, D.bool_b, Bool.false_eq_true, ↓reduceIte, dle_f]
    refine round_exit (by omega) ?_
    show lpDep [.i c, .i n, .s g.nm, .b g.dr, .l g.N, .l g.E, .l g.C] = _
    have : c = -1 := by omega
    subst this
    simp only [lpDep, depth_neg (show (-1 : Int) < 0 by omega), Int.add_zero]
theorem m96 : Meets Try.prog 96 S96 (R 96) (F 96) := by
  refine meets_of_vt (pre := R) (Φ := F) mixed (sgAt_all (P := Try.prog) (pre := R) (Φ := F) (l := sg96) ((fun _ h => nomatch h))) Try.func96 b96 n96 (loops_n 1 k96 fun k hk => match k, hk with | 0, _ => loop_this lf96_0 loopM96_0) e96 fun ds hf hq => ?_
  obtain ⟨g, ds', rfl, h5, _, _, _, ⟨_, hC⟩⟩ := fitsG hf.flat
  obtain ⟨x, rfl, hx⟩ := fits1 h5
  obtain ⟨c, rfl, _⟩ := wf_i64 hx
  have hq : atC g.C c := hq
  have hpre : prDep [.i c, .i 0, .s g.nm, .b g.dr, .l g.N, .l g.E, .l g.C] := ⟨c, 0, g, rfl, hq, rowI1_of hC, by omega, by have := hq.2.1; have := hq.2.2.1; omega⟩
  simp only [vt96, VT.ok, Nd.holds, X.outs, X.ds, X.d, takeD_zero, takeD_cons, List.cons_append, List.nil_append, List.getD_cons_zero, List.getD_cons_succ, D.int_i, D.bool_b, D.lst_l, and_true, F19600, R19600, F96, lpDep, depthD, cL, cI, Int.zero_add]
  exact fun _ => hpre
theorem m54 : Meets Try.prog 54 S54 (R 54) (F 54) := by
  refine meets_of_vt (pre := R) (Φ := F) mixed (sgAt_all (P := Try.prog) (pre := R) (Φ := F) (l := sg54) (List.forall_mem_cons.2 ⟨Meets.at (pre := R) (Φ := F) m52, List.forall_mem_cons.2 ⟨Meets.at (pre := R) (Φ := F) m81, List.forall_mem_cons.2 ⟨Meets.at (pre := R) (Φ := F) m85, List.forall_mem_cons.2 ⟨Meets.at (pre := R) (Φ := F) m87, (fun _ h => nomatch h)⟩⟩⟩⟩)) Try.func54 b54 n54 (loops_n 0 k54 fun k hk => by omega) e54 fun ds hf hq => ?_
  obtain ⟨g, ds', rfl, h5, _, _, _, ⟨_, hC⟩⟩ := fitsG hf.flat
  obtain ⟨x, rfl, hx⟩ := fits1 h5
  obtain ⟨i, e, hi, h16, hok⟩ : prClu (.s g.nm :: .b g.dr :: .l g.N :: .l g.E :: .l g.C :: [x]) := hq
  have e : x = .i (i : Int) := e
  subst e
  have hi : i < g.C.length := hi
  have h16 : g.C.length ≤ 16 := h16
  have hok : okC g.C i := hok
  have hF : F 54 (.s g.nm :: .b g.dr :: .l g.N :: .l g.E :: .l g.C :: [.i (i : Int)]) = [.i (cluE g.N g.C i)] := rfl
  rw [hF]
  generalize hv : cluE g.N g.C i = res
  unfold cluE at hv
  simp (disch := omega) only [vt54, VT.ok, Nd.holds, X.outs, X.ds, X.d, Op1.ev, Op2.ev, takeD_zero, takeD_cons, List.cons_append, List.nil_append, List.getD_cons_zero, List.getD_cons_succ, D.int_i, D.bool_b, D.lst_l, ite_b, ite_or, Int.toNat_natCast, implies_true, true_and, takeD1_0, F52, R52, F81, R81, F85, R85, F87, R87, dle_t, dlt_t, nameD, findD, depthD, cS, cI, cL, Int.toNat_natCast]
  cases h1 : isName (cS (el g.C i) 0)
  · rw [h1] at hv
    simp only [Bool.not_false, if_true]
    rw [← hv]; rfl
  · simp only [h1, if_true] at hv
    simp only [Bool.not_true, Bool.false_eq_true, if_false]
    refine ⟨fun _ k _ => ⟨_, cellsN 2 _, rfl, rfl, cellsN_length 2 _⟩, ?_⟩
    show if (if decide (0 ≤ find g.N (cS (el g.C i) 0)) = true then D.b true else D.b (anyN (nmP (g.C.take i) (cS (el g.C i) 0)) (g.C.take i).length)).bool = true then _ else _
    rw [any_take (by omega)]
    simp only [ite_b, ite_or, D.bool_b]
    cases h2 : (decide (0 ≤ find g.N (cS (el g.C i) 0)) || anyN (nmP g.C (cS (el g.C i) 0)) i)
    · rw [h2] at hv
      simp only [Bool.false_eq_true, if_false] at hv ⊢
      by_cases h3 : cI (el g.C i) 1 < -1 ∨ (i : Int) ≤ cI (el g.C i) 1
      · rw [if_pos h3] at hv
        rw [if_pos (by exact dor_t h3), ← hv]
      · rw [if_neg h3] at hv
        rw [if_neg (by exact dor_f h3)]
        have hat : atC g.C i := ⟨by omega, by omega, h16, fun k hk => by
          by_cases e : k = i
          · subst e; omega
          · exact hok k (by omega)⟩
        refine ⟨fun _ => hat, ?_⟩
        by_cases h4 : 6 < depth g.C i
        · rw [if_pos h4] at hv
          rw [if_pos (by exact dec_t h4), ← hv]
        · rw [if_neg h4] at hv
          rw [if_neg (by exact dec_f h4), ← hv]
    · rw [h2] at hv
      simp only [if_true] at hv ⊢
      rw [← hv]
theorem loopM70_0 : LoopMeets Try.prog F (R L70_0.key) L70_0 lb70_0 := by
  refine loop_meets (pre := R) mixed (sgAt_all (P := Try.prog) (pre := R) (Φ := F) (l := sg70) (List.forall_mem_cons.2 ⟨Meets.at (pre := R) (Φ := F) m68, List.forall_mem_cons.2 ⟨Meets.at (pre := R) (Φ := F) m93, List.forall_mem_cons.2 ⟨Meets.at (pre := R) (Φ := F) m96, (fun _ h => nomatch h)⟩⟩⟩)) (loops_n 0 lk70_0 fun k hk => by omega) L70_0 (fun ρ => ((ρ.getD 0 default).int - (ρ.getD 2 default).int).toNat) le70_0 fun ρ _ hq => ?_
  obtain ⟨i, v, g, nm, z, j, rfl, hj, hi, hm⟩ : prCluR ρ := hq
  rw [maxLen_val] at hm
  by_cases hlt : j < i
  · simp (disch := omega) only [rt70_0, VT.ok, Nd.holds, X.ds, X.d, Op1.ev, Op2.ev, List.getD_cons_zero, List.getD_cons_succ, D.int_i, D.bool_b, D.lst_l, D.str_s, Int.toNat_natCast, implies_true, true_and, ↓reduceIte, dle_t, dlt_t, w64']
    show if nmP g.C nm j = true then _ else _
    cases hb : nmP g.C nm j
    · simp only [Bool.false_eq_true, if_false]
      refine round_next ⟨⟨i, v, g, nm, z, j + 1, rfl, by omega, hi, hm⟩, ?_, ?_⟩
      · show ((i : Int) - ((j + 1 : Nat) : Int)).toNat < ((i : Int) - (j : Int)).toNat
        omega
      · show lpCluR [.i (i : Int), v, .i ((j + 1 : Nat) : Int), .s g.nm, .b g.dr, .l g.N, .l g.E, .l g.C, .s nm, z] = lpCluR [.i (i : Int), v, .i (j : Int), .s g.nm, .b g.dr, .l g.N, .l g.E, .l g.C, .s nm, z]
        simp only [lpCluR, Int.toNat_natCast]
        exact scan_next hlt hb
    · simp only [if_true]
      refine round_exit (by omega) ?_
      show lpCluR [.i (i : Int), v, .i (j : Int), .s g.nm, .b g.dr, .l g.N, .l g.E, .l g.C, .s nm, z] = _
      simp only [lpCluR, Int.toNat_natCast]
      exact scan_hit hlt hb
  · have hj' : j = i := by omega
    subst hj'
    simp (disch := omega) only [rt70_0, VT.ok, X.ds, X.d, Op2.ev, List.getD_cons_zero, List.getD_cons_succ, D.int_i, D.bool_b, Bool.false_eq_true, ↓reduceIte, dlt_f]
    refine round_exit (by omega) ?_
    show lpCluR [.i (j : Int), v, .i (j : Int), .s g.nm, .b g.dr, .l g.N, .l g.E, .l g.C, .s nm, z] = _
    simp only [lpCluR, Int.toNat_natCast]
    exact scan_end
theorem row_s {C : List (List D)} {c : List CT} (h : ∀ x ∈ C, FitsF (.str :: c) x) {i : Nat} (hi : i < C.length) : (el C i).getD 0 default = .s (cS (el C i) 0) := by
  have hx := h (el C i) (getD_mem [] hi)
  match e : el C i, hx with
  | a :: bs, ⟨h0, _⟩ =>
    obtain ⟨s, rfl, _⟩ := wf_str h0
    rfl
theorem m70 : Meets Try.prog 70 S70 (R 70) (F 70) := by
  refine meets_of_vt (pre := R) (Φ := F) mixed (sgAt_all (P := Try.prog) (pre := R) (Φ := F) (l := sg70) (List.forall_mem_cons.2 ⟨Meets.at (pre := R) (Φ := F) m68, List.forall_mem_cons.2 ⟨Meets.at (pre := R) (Φ := F) m93, List.forall_mem_cons.2 ⟨Meets.at (pre := R) (Φ := F) m96, (fun _ h => nomatch h)⟩⟩⟩)) Try.func70 b70 n70 (loops_n 1 k70 fun k hk => match k, hk with | 0, _ => loop_this lf70_0 loopM70_0) e70 fun ds hf hq => ?_
  obtain ⟨g, ds', rfl, h5, _, _, _, ⟨hmC, hC⟩⟩ := fitsG hf.flat
  obtain ⟨x, rfl, hx⟩ := fits1 h5
  obtain ⟨i, e, hi, h16, hok⟩ : prClu (.s g.nm :: .b g.dr :: .l g.N :: .l g.E :: .l g.C :: [x]) := hq
  have e : x = .i (i : Int) := e
  subst e
  have hi : i < g.C.length := hi
  have h16 : g.C.length ≤ 16 := h16
  have hok : okC g.C i := hok
  have hF : F 70 (.s g.nm :: .b g.dr :: .l g.N :: .l g.E :: .l g.C :: [.i (i : Int)]) = [.i (cluE g.N g.C i)] := rfl
  rw [hF]
  generalize hv : cluE g.N g.C i = res
  unfold cluE at hv
  have hnm : (g.C.getD i []).getD 0 default = .s (cS (el g.C i) 0) := row_s hC hi
  have hpre : prCluR [.i (i : Int), .i 0, .i 0, .s g.nm, .b g.dr, .l g.N, .l g.E, .l g.C, .s (cS (el g.C i) 0), (g.C.getD i []).getD 1 default] := ⟨i, _, g, _, _, 0, rfl, by omega, hi, hmC⟩
  simp (disch := omega) only [vt70, VT.ok, Nd.holds, X.outs, X.ds, X.d, Op1.ev, Op2.ev, takeD_zero, takeD_cons, List.cons_append, List.nil_append, List.getD_cons_zero, List.getD_cons_succ, D.int_i, D.bool_b, D.lst_l, ite_b, ite_or, Int.toNat_natCast, implies_true, true_and, F68, R68, F93, R93, F96, R96, F17000, R17000, dle_t, dlt_t, nameD, findD, depthD, cI, cL, Int.toNat_natCast, hnm, lpCluR, Int.toNat_zero, Nat.sub_zero]
  cases h1 : isName (cS (el g.C i) 0)
  · rw [h1] at hv
    simp only [h1, cS, List.getD_cons_zero, D.str_s, Bool.not_false, if_true]
    rw [← hv]; rfl
  · simp only [h1, if_true] at hv
    rw [if_neg (by
      show ¬ (!isName (cS (el g.C i) 0)) = true
      rw [h1]; decide)]
    refine ⟨fun _ => hpre, ?_⟩
    rcases scan_two (p := nmP g.C (cS (el g.C i) 0)) i with ⟨h2, k, _, _, _, h⟩ | ⟨h2, h⟩
    · rw [h2, Bool.or_true, if_pos rfl] at hv
      simp only [h, takeD_zero, takeD_cons, List.getD_cons_zero, List.getD_cons_succ, D.int_i, ↓reduceIte, beq_t]
      rw [← hv]
    · rw [h2, Bool.or_false] at hv
      simp (disch := omega) only [h, takeD_zero, takeD_cons, List.cons_append, List.nil_append, List.getD_cons_zero, List.getD_cons_succ, D.int_i, Bool.false_eq_true, ↓reduceIte, beq_f]
      by_cases h4 : 0 ≤ find g.N (cS (el g.C i) 0)
      · rw [if_pos (dec_t h4)] at hv
        rw [if_pos (by exact dec_t h4), ← hv]
      · rw [if_neg (dec_f h4)] at hv
        rw [if_neg (by exact dec_f h4)]
        by_cases h3 : cI (el g.C i) 1 < -1 ∨ (i : Int) ≤ cI (el g.C i) 1
        · rw [if_pos h3] at hv
          rw [if_pos (by exact dor_t h3), ← hv]
        · rw [if_neg h3] at hv
          rw [if_neg (by exact dor_f h3)]
          have hat : atC g.C i := ⟨by omega, by omega, h16, fun k hk => by
            by_cases e : k = i
            · subst e; omega
            · exact hok k (by omega)⟩
          refine ⟨fun _ => hat, ?_⟩
          by_cases h4 : 6 < depth g.C i
          · rw [if_pos h4] at hv
            rw [if_pos (by exact dec_t h4), ← hv]
          · rw [if_neg h4] at hv
            rw [if_neg (by exact dec_f h4), ← hv]
theorem fitsE {ds : List D} (h : FitsF [.int .i64, .int .i64, .int .i64, .int .i64, .str, .int .i64, .int .i64] ds) : ∃ (a b c d : Int) (s : ByteArray) (w l : Int), ds = [.i a, .i b, .i c, .i d, .s s, .i w, .i l] ∧ s.size ≤ maxLen := by
  match ds, h with
  | [d0, d1, d2, d3, d4, d5, d6], ⟨h0, h1, h2, h3, h4, h5, h6, _⟩ =>
    obtain ⟨a, rfl, _⟩ := wf_i64 h0
    obtain ⟨b, rfl, _⟩ := wf_i64 h1
    obtain ⟨c, rfl, _⟩ := wf_i64 h2
    obtain ⟨d, rfl, _⟩ := wf_i64 h3
    obtain ⟨s, rfl, hs⟩ := wf_str h4
    obtain ⟨w, rfl, _⟩ := wf_i64 h5
    obtain ⟨l, rfl, _⟩ := wf_i64 h6
    exact ⟨a, b, c, d, s, w, l, rfl, hs⟩
theorem m55 : Meets Try.prog 55 S55 (R 55) (F 55) := by
  refine meets_of_vt (pre := R) (Φ := F) mixed (sgAt_all (P := Try.prog) (pre := R) (Φ := F) (l := sg55) (List.forall_mem_cons.2 ⟨Meets.at (pre := R) (Φ := F) m82, (fun _ h => nomatch h)⟩)) Try.func55 b55 n55 (loops_n 0 k55 fun k hk => by omega) e55 fun ds hf hq => ?_
  obtain ⟨g, ds', rfl, h5, _⟩ := fitsG hf.flat
  obtain ⟨a, b, c, d, s, w, l, rfl, _⟩ := fitsE h5
  have hF : F 55 (.s g.nm :: .b g.dr :: .l g.N :: .l g.E :: .l g.C :: [.i a, .i b, .i c, .i d, .s s, .i w, .i l]) = [.i (edgeE g.N [.i a, .i b, .i c, .i d, .s s, .i w, .i l])] := rfl
  rw [hF]
  generalize hv : edgeE g.N [.i a, .i b, .i c, .i d, .s s, .i w, .i l] = res
  simp only [edgeE, cI, cS, cL, List.getD_cons_zero, List.getD_cons_succ, D.int_i, D.str_s] at hv
  generalize hA : (((el g.N a.toNat).getD 5 default).lst.length : Int) = A at hv
  generalize hB : (((el g.N b.toNat).getD 5 default).lst.length : Int) = B at hv
  have hA' : (((g.N.getD a.toNat []).getD 5 default).lst.length : Int) = A := hA
  have hB' : (((g.N.getD b.toNat []).getD 5 default).lst.length : Int) = B := hB
  by_cases h1 : 0 ≤ a ∧ a < g.N.length ∧ 0 ≤ b ∧ b < g.N.length ∧ -1 ≤ c ∧ c < A ∧ -1 ≤ d ∧ d < B
  · rw [if_pos h1] at hv
    simp (disch := omega) only [vt55, VT.ok, Nd.holds, X.outs, X.ds, X.d, Op1.ev, Op2.ev, takeD_zero, takeD_cons, List.cons_append, List.nil_append, List.getD_cons_zero, List.getD_cons_succ, D.int_i, D.bool_b, D.lst_l, D.str_s, ite_b, ite_or, imin, imax, Bool.false_eq_true, implies_true, true_and, F82, R82, ↓reduceIte, dle_t, dle_f, dlt_t, dlt_f, hA', hB', labelD, cS, Bool.not_false]
    by_cases h2 : labelE s = 0
    · rw [if_pos h2] at hv
      rw [if_neg (by exact bne_f h2)]
      by_cases h3 : 1 ≤ w ∧ w ≤ 1000 ∧ 1 ≤ l ∧ l ≤ 64
      · rw [if_pos h3] at hv
        simp (disch := omega) only [↓reduceIte, dlt_f, Bool.or_self, Bool.false_eq_true]
        rw [← hv]
      · rw [if_neg h3] at hv
        rw [if_pos (by
          simp only [Bool.or_eq_true, decide_eq_true_eq]
          omega), ← hv]
    · rw [if_neg h2] at hv
      rw [if_pos (by exact bne_t h2), ← hv]
  · rw [if_neg h1] at hv
    have hc : ((((decide (min a b < 0) || decide ((g.N.length : Int) ≤ max a b)) || decide (min c d < -1)) || decide (A ≤ c)) || decide (B ≤ d)) = true := by
      simp only [Bool.or_eq_true, decide_eq_true_eq]
      omega
    simp only [vt55, VT.ok, Nd.holds, X.outs, X.ds, X.d, Op1.ev, Op2.ev, List.cons_append, List.nil_append, List.getD_cons_zero, List.getD_cons_succ, D.int_i, D.bool_b, D.lst_l, ite_b, ite_or, imin, imax, if_true, implies_true, true_and, takeD1_0, F82, R82, hA', hB', hc]
    simp only [Bool.not_eq_true', Bool.or_eq_false_iff, decide_eq_false_iff_not, decide_eq_true_eq]
    exact ⟨fun h => by omega, fun h => by omega, fun h => by omega, fun h => by omega, by rw [hv]⟩
end Go.Proofs.Ytindllmeeckfcaa.rv
namespace Go.Proofs.Ytindllmeeckfcaa.rv
set_option maxRecDepth 10000
open Go.RV
theorem edgeD7 (a b : D) (N : List (List D)) (c d : D) (x : List D) : edgeD [a, b, .l N, c, d, x.getD 0 default, x.getD 1 default, x.getD 2 default, x.getD 3 default, x.getD 4 default, x.getD 5 default, x.getD 6 default] = [.i (edgeE N x)] := rfl
theorem loopM26_0 : LoopMeets Try.prog F (R L26_0.key) L26_0 lb26_0 := by
  refine loop_meets (pre := R) mixed (sgAt_all (P := Try.prog) (pre := R) (Φ := F) (l := sg26) (List.forall_mem_cons.2 ⟨Meets.at (pre := R) (Φ := F) m52, List.forall_mem_cons.2 ⟨Meets.at (pre := R) (Φ := F) m53, List.forall_mem_cons.2 ⟨Meets.at (pre := R) (Φ := F) m54, List.forall_mem_cons.2 ⟨Meets.at (pre := R) (Φ := F) m55, (fun _ h => nomatch h)⟩⟩⟩⟩)) (loops_n 0 lk26_0 fun k hk => by omega) L26_0 (fun ρ => ((ρ.getD 1 default).int - (ρ.getD 2 default).int).toNat) le26_0 fun ρ _ hq => ?_
  obtain ⟨v, g, j, rfl, hj, hm⟩ : prV0 ρ := hq
  rw [maxLen_val] at hm
  by_cases hlt : j < g.N.length
  · have hN : nodeE g.N g.C j = 0 → RoundOk F (R L26_0.key) (fun ρ => ((ρ.getD 1 default).int - (ρ.getD 2 default).int).toNat) L26_0 [v, .i (g.N.length : Int), .i (j : Int), .s g.nm, .b g.dr, .l g.N, .l g.E, .l g.C] [.i (-1), v, .i ((j + 1 : Nat) : Int)] := fun h0 => by
      refine round_next ⟨⟨v, g, j + 1, rfl, by omega, hm⟩, ?_, ?_⟩
      · show ((g.N.length : Int) - ((j + 1 : Nat) : Int)).toNat < ((g.N.length : Int) - (j : Int)).toNat
        omega
      · show lpV0 [v, .i (g.N.length : Int), .i ((j + 1 : Nat) : Int), .s g.nm, .b g.dr, .l g.N, .l g.E, .l g.C] = lpV0 [v, .i (g.N.length : Int), .i (j : Int), .s g.nm, .b g.dr, .l g.N, .l g.E, .l g.C]
        simp only [lpV0, errLp, Int.toNat_natCast]
        exact scan_next hlt (by simp only [er, h0]; rfl)
    have hX : ∀ z : Int, nodeE g.N g.C j = z → z ≠ 0 → RoundOk F (R L26_0.key) (fun ρ => ((ρ.getD 1 default).int - (ρ.getD 2 default).int).toNat) L26_0 [v, .i (g.N.length : Int), .i (j : Int), .s g.nm, .b g.dr, .l g.N, .l g.E, .l g.C] [.i 0, .i z, .i (j : Int)] := fun z h0 hz => by
      refine round_exit (by omega) ?_
      show lpV0 [v, .i (g.N.length : Int), .i (j : Int), .s g.nm, .b g.dr, .l g.N, .l g.E, .l g.C] = _
      simp only [lpV0, errLp, Int.toNat_natCast]
      rw [← h0]
      exact scan_hit hlt (by simp only [er, h0]; simpa using hz)
    have hpre : prNode [.s g.nm, .b g.dr, .l g.N, .l g.E, .l g.C, .i (j : Int)] := ⟨j, rfl, hlt⟩
    simp (disch := omega) only [rt26_0, VT.ok, Nd.holds, X.outs, X.ds, X.d, Op1.ev, Op2.ev, takeD_zero, takeD_cons, List.cons_append, List.nil_append, List.getD_cons_zero, List.getD_cons_succ, D.int_i, D.bool_b, D.lst_l, Int.toNat_natCast, F53, R53, ↓reduceIte, dlt_t, w64', nodeD, cL, cI, Int.toNat_natCast]
    refine ⟨fun _ => hpre, ?_⟩
    by_cases h : nodeE g.N g.C j = 0
    · rw [if_neg (by exact bne_f h)]
      exact hN h
    · rw [if_pos (by exact bne_t h)]
      exact hX _ rfl h
  · have hj' : j = g.N.length := by omega
    subst hj'
    simp (disch := omega) only [rt26_0, VT.ok, X.ds, X.d, Op2.ev, List.getD_cons_zero, List.getD_cons_succ, D.int_i, D.bool_b, Bool.false_eq_true, ↓reduceIte, dlt_f]
    refine round_exit (by omega) ?_
    show lpV0 [v, .i (g.N.length : Int), .i (g.N.length : Int), .s g.nm, .b g.dr, .l g.N, .l g.E, .l g.C] = _
    simp only [lpV0, errLp, Int.toNat_natCast]
    exact scan_end
theorem loopM26_1 : LoopMeets Try.prog F (R L26_1.key) L26_1 lb26_1 := by
  refine loop_meets (pre := R) mixed (sgAt_all (P := Try.prog) (pre := R) (Φ := F) (l := sg26) (List.forall_mem_cons.2 ⟨Meets.at (pre := R) (Φ := F) m52, List.forall_mem_cons.2 ⟨Meets.at (pre := R) (Φ := F) m53, List.forall_mem_cons.2 ⟨Meets.at (pre := R) (Φ := F) m54, List.forall_mem_cons.2 ⟨Meets.at (pre := R) (Φ := F) m55, (fun _ h => nomatch h)⟩⟩⟩⟩)) (loops_n 0 lk26_1 fun k hk => by omega) L26_1 (fun ρ => ((ρ.getD 1 default).int - (ρ.getD 2 default).int).toNat) le26_1 fun ρ _ hq => ?_
  obtain ⟨v, g, j, rfl, hj, h16, hk⟩ : prV1 ρ := hq
  by_cases hlt : j < g.C.length
  · have hN : cluE g.N g.C j = 0 → RoundOk F (R L26_1.key) (fun ρ => ((ρ.getD 1 default).int - (ρ.getD 2 default).int).toNat) L26_1 [v, .i (g.C.length : Int), .i (j : Int), .s g.nm, .b g.dr, .l g.N, .l g.E, .l g.C] [.i (-1), v, .i ((j + 1 : Nat) : Int)] := fun h0 => by
      refine round_next ⟨⟨v, g, j + 1, rfl, by omega, h16, by intro k hk'; rcases Nat.lt_or_ge k j with e | e; exact hk k e; rw [show k = j by omega]; exact h0⟩, ?_, ?_⟩
      · show ((g.C.length : Int) - ((j + 1 : Nat) : Int)).toNat < ((g.C.length : Int) - (j : Int)).toNat
        omega
      · show lpV1 [v, .i (g.C.length : Int), .i ((j + 1 : Nat) : Int), .s g.nm, .b g.dr, .l g.N, .l g.E, .l g.C] = lpV1 [v, .i (g.C.length : Int), .i (j : Int), .s g.nm, .b g.dr, .l g.N, .l g.E, .l g.C]
        simp only [lpV1, errLp, Int.toNat_natCast]
        exact scan_next hlt (by simp only [er, h0]; rfl)
    have hX : ∀ z : Int, cluE g.N g.C j = z → z ≠ 0 → RoundOk F (R L26_1.key) (fun ρ => ((ρ.getD 1 default).int - (ρ.getD 2 default).int).toNat) L26_1 [v, .i (g.C.length : Int), .i (j : Int), .s g.nm, .b g.dr, .l g.N, .l g.E, .l g.C] [.i 0, .i z, .i (j : Int)] := fun z h0 hz => by
      refine round_exit (by omega) ?_
      show lpV1 [v, .i (g.C.length : Int), .i (j : Int), .s g.nm, .b g.dr, .l g.N, .l g.E, .l g.C] = _
      simp only [lpV1, errLp, Int.toNat_natCast]
      rw [← h0]
      exact scan_hit hlt (by simp only [er, h0]; simpa using hz)
    have hpre : prClu [.s g.nm, .b g.dr, .l g.N, .l g.E, .l g.C, .i (j : Int)] := ⟨j, rfl, hlt, h16, okC_of hk⟩
    simp (disch := omega) only [rt26_1, VT.ok, Nd.holds, X.outs, X.ds, X.d, Op1.ev, Op2.ev, takeD_zero, takeD_cons, List.cons_append, List.nil_append, List.getD_cons_zero, List.getD_cons_succ, D.int_i, D.bool_b, D.lst_l, Int.toNat_natCast, F54, R54, ↓reduceIte, dlt_t, w64', cluD, cL, cI, Int.toNat_natCast]
    refine ⟨fun _ => hpre, ?_⟩
    by_cases h : cluE g.N g.C j = 0
    · rw [if_neg (by exact bne_f h)]
      exact hN h
    · rw [if_pos (by exact bne_t h)]
      exact hX _ rfl h
  · have hj' : j = g.C.length := by omega
    subst hj'
    simp (disch := omega) only [rt26_1, VT.ok, X.ds, X.d, Op2.ev, List.getD_cons_zero, List.getD_cons_succ, D.int_i, D.bool_b, Bool.false_eq_true, ↓reduceIte, dlt_f]
    refine round_exit (by omega) ?_
    show lpV1 [v, .i (g.C.length : Int), .i (g.C.length : Int), .s g.nm, .b g.dr, .l g.N, .l g.E, .l g.C] = _
    simp only [lpV1, errLp, Int.toNat_natCast]
    exact scan_end
theorem loopM26_2 : LoopMeets Try.prog F (R L26_2.key) L26_2 lb26_2 := by
  refine loop_meets (pre := R) mixed (sgAt_all (P := Try.prog) (pre := R) (Φ := F) (l := sg26) (List.forall_mem_cons.2 ⟨Meets.at (pre := R) (Φ := F) m52, List.forall_mem_cons.2 ⟨Meets.at (pre := R) (Φ := F) m53, List.forall_mem_cons.2 ⟨Meets.at (pre := R) (Φ := F) m54, List.forall_mem_cons.2 ⟨Meets.at (pre := R) (Φ := F) m55, (fun _ h => nomatch h)⟩⟩⟩⟩)) (loops_n 0 lk26_2 fun k hk => by omega) L26_2 (fun ρ => ((ρ.getD 2 default).int - (ρ.getD 3 default).int).toNat) le26_2 fun ρ _ hq => ?_
  obtain ⟨v, g, j, rfl, hj, hm⟩ : prV2 ρ := hq
  rw [maxLen_val] at hm
  by_cases hlt : j < g.E.length
  · have hN : edgeE g.N (el g.E j) = 0 → RoundOk F (R L26_2.key) (fun ρ => ((ρ.getD 2 default).int - (ρ.getD 3 default).int).toNat) L26_2 [v, .l g.E, .i (g.E.length : Int), .i (j : Int), .s g.nm, .b g.dr, .l g.N, .l g.E, .l g.C] [.i (-1), v, .i ((j + 1 : Nat) : Int)] := fun h0 => by
      refine round_next ⟨⟨v, g, j + 1, rfl, by omega, hm⟩, ?_, ?_⟩
      · show ((g.E.length : Int) - ((j + 1 : Nat) : Int)).toNat < ((g.E.length : Int) - (j : Int)).toNat
        omega
      · show lpV2 [v, .l g.E, .i (g.E.length : Int), .i ((j + 1 : Nat) : Int), .s g.nm, .b g.dr, .l g.N, .l g.E, .l g.C] = lpV2 [v, .l g.E, .i (g.E.length : Int), .i (j : Int), .s g.nm, .b g.dr, .l g.N, .l g.E, .l g.C]
        simp only [lpV2, errLp, Int.toNat_natCast]
        exact scan_next hlt (by simp only [er, h0]; rfl)
    have hX : ∀ z : Int, edgeE g.N (el g.E j) = z → z ≠ 0 → RoundOk F (R L26_2.key) (fun ρ => ((ρ.getD 2 default).int - (ρ.getD 3 default).int).toNat) L26_2 [v, .l g.E, .i (g.E.length : Int), .i (j : Int), .s g.nm, .b g.dr, .l g.N, .l g.E, .l g.C] [.i 0, .i z, .i (j : Int)] := fun z h0 hz => by
      refine round_exit (by omega) ?_
      show lpV2 [v, .l g.E, .i (g.E.length : Int), .i (j : Int), .s g.nm, .b g.dr, .l g.N, .l g.E, .l g.C] = _
      simp only [lpV2, errLp, Int.toNat_natCast]
      rw [← h0]
      exact scan_hit hlt (by simp only [er, h0]; simpa using hz)
    simp (disch := omega) only [rt26_2, VT.ok, Nd.holds, X.outs, X.ds, X.d, Op1.ev, Op2.ev, takeD_zero, takeD_cons, List.cons_append, List.nil_append, List.getD_cons_zero, List.getD_cons_succ, D.int_i, D.bool_b, D.lst_l, Int.toNat_natCast, implies_true, true_and, F55, R55, ↓reduceIte, dle_t, dlt_t, w64', edgeD7, Int.toNat_natCast]
    by_cases h : edgeE g.N (el g.E j) = 0
    · rw [if_neg (by exact bne_f h)]
      exact hN h
    · rw [if_pos (by exact bne_t h)]
      exact hX _ rfl h
  · have hj' : j = g.E.length := by omega
    subst hj'
    simp (disch := omega) only [rt26_2, VT.ok, X.ds, X.d, Op2.ev, List.getD_cons_zero, List.getD_cons_succ, D.int_i, D.bool_b, Bool.false_eq_true, ↓reduceIte, dlt_f]
    refine round_exit (by omega) ?_
    show lpV2 [v, .l g.E, .i (g.E.length : Int), .i (g.E.length : Int), .s g.nm, .b g.dr, .l g.N, .l g.E, .l g.C] = _
    simp only [lpV2, errLp, Int.toNat_natCast]
    exact scan_end
theorem m26 : Meets Try.prog 26 S26 (R 26) (F 26) := by
  refine meets_of_vt (pre := R) (Φ := F) mixed (sgAt_all (P := Try.prog) (pre := R) (Φ := F) (l := sg26) (List.forall_mem_cons.2 ⟨Meets.at (pre := R) (Φ := F) m52, List.forall_mem_cons.2 ⟨Meets.at (pre := R) (Φ := F) m53, List.forall_mem_cons.2 ⟨Meets.at (pre := R) (Φ := F) m54, List.forall_mem_cons.2 ⟨Meets.at (pre := R) (Φ := F) m55, (fun _ h => nomatch h)⟩⟩⟩⟩)) Try.func26 b26 n26 (loops_n 3 k26 fun k hk => match k, hk with | 0, _ => loop_this lf26_0 loopM26_0 | 1, _ => loop_this lf26_1 loopM26_1 | 2, _ => loop_this lf26_2 loopM26_2) e26 fun ds hf hq => ?_
  obtain ⟨g, ds', rfl, h5, hnm, ⟨hmN, _⟩, ⟨hmE, _⟩, ⟨hmC, _⟩⟩ := fitsG hf.flat
  have e0 := fits0 h5
  subst e0
  have hF : F 26 [.s g.nm, .b g.dr, .l g.N, .l g.E, .l g.C] = [.i (validE g)] := rfl
  rw [hF]
  generalize hv : validE g = res
  unfold validE at hv
  by_cases h0 : 64 < (g.N.length : Int) ∨ 256 < (g.E.length : Int) ∨ 16 < (g.C.length : Int)
  · rw [if_pos h0] at hv
    have hc : ((decide (64 < (g.N.length : Int)) || decide (256 < (g.E.length : Int))) || decide (16 < (g.C.length : Int))) = true := by
      simp only [Bool.or_eq_true, decide_eq_true_eq]
      omega
    simp only [vt26, VT.ok, Nd.holds, X.outs, X.ds, X.d, Op1.ev, Op2.ev, List.cons_append, List.nil_append, List.getD_cons_zero, List.getD_cons_succ, D.int_i, D.bool_b, D.lst_l, ite_b, ite_or, if_true, takeD1_0, hc]
    rw [hv]
  · rw [if_neg h0] at hv
    have p0 : prV0 [.i 0, .i (g.N.length : Int), .i 0, .s g.nm, .b g.dr, .l g.N, .l g.E, .l g.C] := ⟨_, g, 0, rfl, by omega, hmN⟩
    have p1 : ∀ v, prV1 [v, .i (g.C.length : Int), .i 0, .s g.nm, .b g.dr, .l g.N, .l g.E, .l g.C] := fun v => ⟨_, g, 0, rfl, by omega, by omega, fun k hk => by omega⟩
    have p2 : ∀ v, prV2 [v, .l g.E, .i (g.E.length : Int), .i 0, .s g.nm, .b g.dr, .l g.N, .l g.E, .l g.C] := fun v => ⟨_, g, 0, rfl, by omega, hmE⟩
    simp (disch := omega) only [vt26, VT.ok, Nd.holds, X.outs, X.ds, X.d, Op1.ev, Op2.ev, takeD_zero, takeD_cons, List.cons_append, List.nil_append, List.getD_cons_zero, List.getD_cons_succ, D.int_i, D.bool_b, D.lst_l, D.str_s, Bool.false_eq_true, implies_true, true_and, F52, R52, F12600, R12600, F12601, R12601, F12602, R12602, ↓reduceIte, dlt_f, nameD, cS, lpV0, lpV1, lpV2, Int.toNat_zero]
    cases h1 : isName g.nm
    · rw [h1] at hv
      simp only [Bool.not_false, if_true]
      rw [← hv]; rfl
    · rw [h1] at hv
      simp only [if_true, Bool.not_true, Bool.false_eq_true, if_false] at hv ⊢
      refine ⟨fun _ => p0, ?_⟩
      rcases errLp_two (nodeE g.N g.C) (.i 0) g.N.length with ⟨h2, h3⟩ | ⟨h2, _, h3⟩
      · rw [if_neg h2] at hv
        simp only [h3, takeD_zero, takeD_cons, List.getD_cons_zero, List.getD_cons_succ, D.int_i, ↓reduceIte, beq_t]
        rw [hv]
      · rw [if_pos h2] at hv
        simp only [h3, takeD_zero, takeD_cons, List.cons_append, List.nil_append, List.getD_cons_zero, List.getD_cons_succ, D.int_i]
        rw [if_neg (by decide)]
        refine ⟨fun _ => p1 _, ?_⟩
        rcases errLp_two (cluE g.N g.C) (.i 0) g.C.length with ⟨h4, h5⟩ | ⟨h4, _, h5⟩
        · rw [if_neg h4] at hv
          simp only [h5, takeD_zero, takeD_cons, List.cons_append, List.nil_append, List.getD_cons_zero, List.getD_cons_succ, D.int_i]
          rw [if_pos (by rfl), hv]
        · rw [if_pos h4] at hv
          simp only [h5, takeD_zero, takeD_cons, List.cons_append, List.nil_append, List.getD_cons_zero, List.getD_cons_succ, D.int_i]
          rw [if_neg (by decide)]
          refine ⟨fun _ => p2 _, ?_⟩
          rcases errLp_two (fun j => edgeE g.N (el g.E j)) (.i 0) g.E.length with ⟨h6, h7⟩ | ⟨h6, _, h7⟩
          · simp only [h7, takeD_zero, takeD_cons, List.getD_cons_zero, List.getD_cons_succ, D.int_i]
            rw [if_pos (by rfl), hv]
          · simp only [h7, takeD_zero, takeD_cons, List.getD_cons_zero, List.getD_cons_succ, D.int_i]
            rw [if_neg (by decide), ← hv, h6]
end Go.Proofs.Ytindllmeeckfcaa.rv
namespace Go.Proofs.Ytindllmeeckfcaa.rv
set_option maxRecDepth 10000
open Go.RV
theorem cfOv {f : FuncId} (hf : f = 59 ∨ f = 77) (l : List Bx) (q : Bx) :
    ixPre (dpBx 24 27 59 77) 4 [.l (l.map encQ), .c f [.pt [.int .i64, .int .i64, .int .i64, .int .i64]] [.p [.i q.1, .i q.2.1, .i q.2.2.1, .i q.2.2.2]]] ∧ cfFn dyBx 4 [.l (l.map encQ), .c f [.pt [.int .i64, .int .i64, .int .i64, .int .i64]] [.p [.i q.1, .i q.2.1, .i q.2.2.1, .i q.2.2.2]]] = [.b (anyN (ovJ l q) l.length)] := by
  have := cf_ov hf l q
  rw [R25, F25] at this
  exact this
theorem cfBad {f : FuncId} (hf : f = 24 ∨ f = 27) (l : List Bx) :
    ixPre (dpBx 24 27 59 77) 4 [.l (l.map encQ), .c f [] []] ∧ cfFn dyBx 4 [.l (l.map encQ), .c f [] []] = [.b (badL l)] := by
  have := cf_bad hf l
  rw [R25, F25] at this
  exact this
theorem takeQ (l : List Bx) (j : Nat) : (l.map encQ).take j = (l.take j).map encQ := (List.map_take ..).symm
theorem extRaw (a b c d : Int) : fn29 [.i a, .i b, .i c, .i d] = [.i (IntKind.i64.wrap (c - a)), .i (IntKind.i64.wrap (d - b))] := rfl
theorem badCode (q : Bx) (W H : Int) : (!bxB q.1 q.2.1 q.2.2.1 q.2.2.2 || !((IntKind.i64.wrap (q.2.2.1 - q.1) == W) && (IntKind.i64.wrap (q.2.2.2 - q.2.1) == H))) = (!bxQ q || (!((extQ q).1 == W) || !((extQ q).2 == H))) := by
  cases h : bxQ q
  · have h' : bxB q.1 q.2.1 q.2.2.1 q.2.2.2 = false := h
    rw [h']; rfl
  · have h' : bxB q.1 q.2.1 q.2.2.1 q.2.2.2 = true := h
    obtain ⟨e1, e2⟩ := ext_i64 (smQ_of h)
    rw [h', e1, e2, Bool.not_and]
theorem loopM48_0 : LoopMeets Try.prog F (R L48_0.key) L48_0 lb48_0 := by
  refine loop_meets (pre := R) mixed (sgAt_all (P := Try.prog) (pre := R) (Φ := F) (l := sg48) (List.forall_mem_cons.2 ⟨Meets.at (pre := R) (Φ := F) m26, List.forall_mem_cons.2 ⟨Meets.at (pre := R) (Φ := F) m28, List.forall_mem_cons.2 ⟨Meets.at (pre := R) (Φ := F) m17, List.forall_mem_cons.2 ⟨Meets.at (pre := R) (Φ := F) m29, List.forall_mem_cons.2 ⟨Meets.at (pre := R) (Φ := F) m25, (fun _ h => nomatch h)⟩⟩⟩⟩⟩)) (loops_n 0 lk48_0 fun k hk => by omega) L48_0 (fun ρ => ((ρ.getD 2 default).int - (ρ.getD 3 default).int).toNat) le48_0 fun ρ _ hq => ?_
  obtain ⟨v, B, g, j, rfl, hj, hN, h64⟩ : prA0 ρ := hq
  by_cases hlt : j < B.length
  · simp (disch := omega) only [rt48_0, VT.ok, Nd.holds, X.outs, X.ds, X.d, Op1.ev, Op2.ev, takeD_zero, takeD_cons, List.cons_append, List.nil_append, List.getD_cons_zero, List.getD_cons_succ, D.int_i, D.bool_b, D.lst_l, ite_b, ite_or, ite_and, Int.toNat_natCast, List.length_map, implies_true, true_and, F17, R17, F29, R29, ↓reduceIte, dle_t, dlt_t, w64', rowQz, encQ, fn17_eq, extRaw]
    rw [badCode]
    show if badB g.N B j = true then _ else _
    cases hb : badB g.N B j
    · simp only [Bool.false_eq_true, if_false]
      refine round_next ⟨⟨v, B, g, j + 1, rfl, by omega, hN, h64⟩, ?_, ?_⟩
      · show ((B.length : Int) - ((j + 1 : Nat) : Int)).toNat < ((B.length : Int) - (j : Int)).toNat
        omega
      · show lpA0 [v, .l (B.map encQ), .i (B.length : Int), .i ((j + 1 : Nat) : Int), .s g.nm, .b g.dr, .l g.N, .l g.E, .l g.C] = lpA0 [v, .l (B.map encQ), .i (B.length : Int), .i (j : Int), .s g.nm, .b g.dr, .l g.N, .l g.E, .l g.C]
        simp only [lpA0, map_decQ, List.length_map, Int.toNat_natCast]
        exact scan_next hlt hb
    · simp only [if_true]
      refine round_exit (by omega) ?_
      show lpA0 [v, .l (B.map encQ), .i (B.length : Int), .i (j : Int), .s g.nm, .b g.dr, .l g.N, .l g.E, .l g.C] = _
      simp only [lpA0, map_decQ, List.length_map, Int.toNat_natCast]
      exact scan_hit hlt hb
  · have hj' : j = B.length := by omega
    subst hj'
    simp (disch := omega) only [rt48_0, VT.ok, X.ds, X.d, Op2.ev, List.getD_cons_zero, List.getD_cons_succ, D.int_i, D.bool_b, Bool.false_eq_true, ↓reduceIte, dlt_f]
    refine round_exit (by omega) ?_
    show lpA0 [v, .l (B.map encQ), .i (B.length : Int), .i (B.length : Int), .s g.nm, .b g.dr, .l g.N, .l g.E, .l g.C] = _
    simp only [lpA0, map_decQ, List.length_map, Int.toNat_natCast]
    exact scan_end
theorem loopM48_1 : LoopMeets Try.prog F (R L48_1.key) L48_1 lb48_1 := by
  refine loop_meets (pre := R) mixed (sgAt_all (P := Try.prog) (pre := R) (Φ := F) (l := sg48) (List.forall_mem_cons.2 ⟨Meets.at (pre := R) (Φ := F) m26, List.forall_mem_cons.2 ⟨Meets.at (pre := R) (Φ := F) m28, List.forall_mem_cons.2 ⟨Meets.at (pre := R) (Φ := F) m17, List.forall_mem_cons.2 ⟨Meets.at (pre := R) (Φ := F) m29, List.forall_mem_cons.2 ⟨Meets.at (pre := R) (Φ := F) m25, (fun _ h => nomatch h)⟩⟩⟩⟩⟩)) (loops_n 0 lk48_1 fun k hk => by omega) L48_1 (fun ρ => ((ρ.getD 3 default).int - (ρ.getD 4 default).int).toNat) le48_1 fun ρ _ hq => ?_
  obtain ⟨v, B, j, rfl, hj, hm⟩ : prA1 ρ := hq
  rw [maxLen_val] at hm
  by_cases hlt : j < B.length
  · have hcf := cfOv (f := 77) (.inr rfl) (B.take j) (B.getD j z4)
    rw [ov_take (by omega)] at hcf
    simp (disch := omega) only [rt48_1, VT.ok, Nd.holds, X.outs, X.ds, X.d, Op1.ev, Op2.ev, takeD_zero, takeD_cons, List.cons_append, List.nil_append, List.getD_cons_zero, List.getD_cons_succ, D.int_i, D.bool_b, D.lst_l, Int.toNat_natCast, List.length_map, implies_true, true_and, F25, R25, ↓reduceIte, dle_t, dlt_t, w64', rowQz, encQ, Int.toNat_zero, List.drop_zero, takeQ, hcf.2]
    refine ⟨fun _ => hcf.1, ?_⟩
    show if ovN B j = true then _ else _
    cases hb : ovN B j
    · simp only [Bool.false_eq_true, if_false]
      refine round_next ⟨⟨v, B, j + 1, rfl, by omega, hm⟩, ?_, ?_⟩
      · show ((B.length : Int) - ((j + 1 : Nat) : Int)).toNat < ((B.length : Int) - (j : Int)).toNat
        omega
      · show lpA1 [.l (B.map encQ), v, .l (B.map encQ), .i (B.length : Int), .i ((j + 1 : Nat) : Int)] = lpA1 [.l (B.map encQ), v, .l (B.map encQ), .i (B.length : Int), .i (j : Int)]
        simp only [lpA1, map_decQ, List.length_map, Int.toNat_natCast]
        exact scan_next hlt hb
    · simp only [if_true]
      refine round_exit (by omega) ?_
      show lpA1 [.l (B.map encQ), v, .l (B.map encQ), .i (B.length : Int), .i (j : Int)] = _
      simp only [lpA1, map_decQ, List.length_map, Int.toNat_natCast]
      exact scan_hit hlt hb
  · have hj' : j = B.length := by omega
    subst hj'
    simp (disch := omega) only [rt48_1, VT.ok, X.ds, X.d, Op2.ev, List.getD_cons_zero, List.getD_cons_succ, D.int_i, D.bool_b, Bool.false_eq_true, ↓reduceIte, dlt_f]
    refine round_exit (by omega) ?_
    show lpA1 [.l (B.map encQ), v, .l (B.map encQ), .i (B.length : Int), .i (B.length : Int)] = _
    simp only [lpA1, map_decQ, List.length_map, Int.toNat_natCast]
    exact scan_end
theorem fitsGO {e1 e2 e3 e4 : TypeId} {c1 c2 c3 : List CT} {rest : List CT} {ds : List D} (h : FitsF (.str :: .bool :: .sl e1 c1 :: .sl e2 c2 :: .sl e3 c3 :: .int .i64 :: .int .i64 :: .int .i64 :: .int .i64 :: .int .i64 :: .sl e4 [.int .i64, .int .i64, .int .i64, .int .i64] :: rest) ds) :
    ∃ (g : Gd) (o : Od) (B : List Bx) (ds' : List D), ds = .s g.nm :: .b g.dr :: .l g.N :: .l g.E :: .l g.C :: .i o.md :: .i o.ns :: .i o.rs :: .i o.m :: .i o.rd :: .l (B.map encQ) :: ds' ∧ FitsF rest ds' ∧ B.length ≤ maxLen ∧ (∀ x ∈ g.N, FitsF c1 x) ∧ (∀ x ∈ g.C, FitsF c3 x) ∧ (g.N.length ≤ maxLen ∧ g.C.length ≤ maxLen) := by
  obtain ⟨g, ds1, rfl, h1, _, ⟨hn0, hn⟩, _, hc0, hc⟩ := fitsG h
  match ds1, h1 with
  | a :: b :: c :: d :: e :: l :: ds', ⟨k0, k1, k2, k3, k4, k5, k6⟩ =>
    obtain ⟨a, rfl, _⟩ := wf_i64 k0
    obtain ⟨b, rfl, _⟩ := wf_i64 k1
    obtain ⟨c, rfl, _⟩ := wf_i64 k2
    obtain ⟨d, rfl, _⟩ := wf_i64 k3
    obtain ⟨e, rfl, _⟩ := wf_i64 k4
    obtain ⟨B, rfl, hm, _⟩ := slQ k5
    exact ⟨g, ⟨a, b, c, d, e⟩, B, ds', rfl, k6, hm, hn, hc, hn0, hc0⟩
theorem inD_eq (g : Gd) (o : Od) (B : List Bx) : inD [.s g.nm, .b g.dr, .l g.N, .l g.E, .l g.C, .i o.md, .i o.ns, .i o.rs, .i o.m, .i o.rd, .l (B.map encQ)] = [.i (inE g o B)] := by
  show [D.i (inE g o ((B.map encQ).map decQ))] = _
  rw [map_decQ]
theorem valid_len {g : Gd} (h : validE g = 0) : g.N.length ≤ 64 ∧ g.C.length ≤ 16 := by
  unfold validE at h
  split at h
  · cases h
  · rename_i h1
    omega
theorem inE_err {g : Gd} {o : Od} {B : List Bx} (h : ¬ validE g = 0) : inE g o B = validE g := by rw [inE, if_neg h]
theorem m48 : Meets Try.prog 48 S48 (R 48) (F 48) := by
  refine meets_of_vt (pre := R) (Φ := F) mixed (sgAt_all (P := Try.prog) (pre := R) (Φ := F) (l := sg48) (List.forall_mem_cons.2 ⟨Meets.at (pre := R) (Φ := F) m26, List.forall_mem_cons.2 ⟨Meets.at (pre := R) (Φ := F) m28, List.forall_mem_cons.2 ⟨Meets.at (pre := R) (Φ := F) m17, List.forall_mem_cons.2 ⟨Meets.at (pre := R) (Φ := F) m29, List.forall_mem_cons.2 ⟨Meets.at (pre := R) (Φ := F) m25, (fun _ h => nomatch h)⟩⟩⟩⟩⟩)) Try.func48 b48 n48 (loops_n 2 k48 fun k hk => match k, hk with | 0, _ => loop_this lf48_0 loopM48_0 | 1, _ => loop_this lf48_1 loopM48_1) e48 fun ds hf _ => ?_
  obtain ⟨g, o, B, ds', rfl, h0, hm, _⟩ := fitsGO hf.flat
  obtain rfl := fits0 h0
  have hv : validD [.s g.nm, .b g.dr, .l g.N, .l g.E, .l g.C] = [.i (validE g)] := rfl
  have ho := fn28_eq o.md o.ns o.rs o.m o.rd
  simp only [vt48, VT.ok, Nd.holds, X.outs, X.ds, X.d, Op1.ev, Op2.ev, takeD_zero, takeD_cons, List.cons_append, List.nil_append, List.getD_cons_zero, List.getD_cons_succ, D.int_i, D.bool_b, D.lst_l, List.length_map, implies_true, true_and, F26, R26, F28, R28, F14800, R14800, F14801, R14801, F48, hv, ho, inD_eq]
  by_cases h1 : validE g = 0
  · obtain ⟨v1, v2⟩ := valid_len h1
    have hb : (!(validE g == 0)) = false := by simp [h1]
    simp only [hb, Bool.false_eq_true, if_false]
    by_cases h2 : o.ok = true
    · simp only [show (Od.ok ⟨o.md, o.ns, o.rs, o.m, o.rd⟩) = true from h2, Bool.not_true, Bool.false_eq_true, if_false]
      by_cases h3 : B.length = g.N.length
      · have h3' : (!((B.length : Int) == (g.N.length : Int))) = false := by simp [h3]
        have e1 : lpA0 [.i 0, .l (B.map encQ), .i (B.length : Int), .i 0, .s g.nm, .b g.dr, .l g.N, .l g.E, .l g.C] = scanN (badB g.N B) (fun j => [.i 0, .i 1, .i (j : Int)]) (fun j => [.i 1, .i 0, .i (j : Int)]) B.length 0 := by
          simp only [lpA0, map_decQ, List.length_map, Int.toNat_zero, Nat.sub_zero]
        have e2 : lpA1 [.l (B.map encQ), .i 0, .l (B.map encQ), .i (B.length : Int), .i 0] = scanN (ovN B) (fun j => [.i 0, .i 14, .i (j : Int)]) (fun j => [.i 1, .i 0, .i (j : Int)]) B.length 0 := by
          simp only [lpA1, map_decQ, List.length_map, Int.toNat_zero, Nat.sub_zero]
        have hp0 : prA0 [.i 0, .l (B.map encQ), .i (B.length : Int), .i 0, .s g.nm, .b g.dr, .l g.N, .l g.E, .l g.C] := ⟨.i 0, B, g, 0, rfl, by omega, by omega, by omega⟩
        have hp1 : prA1 [.l (B.map encQ), .i 0, .l (B.map encQ), .i (B.length : Int), .i 0] := ⟨.i 0, B, 0, rfl, by omega, hm⟩
        have hin : inE g o B = if anyN (badB g.N B) B.length = true then 1 else if anyN (ovN B) B.length = true then 14 else 0 := by
          rw [inE, if_pos h1, if_pos h2, if_pos h3]
        simp only [h3', Bool.false_eq_true, if_false, e1]
        refine ⟨fun _ => hp0, ?_⟩
        rcases scan_any (p := badB g.N B) (hit := fun j => [D.i 0, .i 1, .i (j : Int)]) (miss := fun j => [D.i 1, .i 0, .i (j : Int)]) B.length with ⟨k1, j, _, _, _, k2⟩ | ⟨k1, k2⟩
        · rw [k2, hin, if_pos k1]
          simp only [takeD_zero, takeD_cons, List.cons_append, List.nil_append, List.getD_cons_zero, List.getD_cons_succ, D.int_i, if_true, show ((0 : Int) == 0) = true from rfl]
        · rw [if_neg (by rw [k1]; decide)] at hin
          rw [k2, hin]
          simp only [takeD_zero, takeD_cons, List.cons_append, List.nil_append, List.getD_cons_zero, List.getD_cons_succ, D.int_i, Bool.false_eq_true, if_false, show ((1 : Int) == 0) = false from rfl, e2]
          refine ⟨fun _ => hp1, ?_⟩
          rcases scan_any (p := ovN B) (hit := fun j => [D.i 0, .i 14, .i (j : Int)]) (miss := fun j => [D.i 1, .i 0, .i (j : Int)]) B.length with ⟨k1, j, _, _, _, k2⟩ | ⟨k1, k2⟩
          · rw [if_pos k1]
            rw [k2]
            simp only [takeD_zero, takeD_cons, List.getD_cons_zero, List.getD_cons_succ, D.int_i, if_true, show ((0 : Int) == 0) = true from rfl]
          · rw [if_neg (c := anyN (ovN B) B.length = true) (by rw [k1]; decide)]
            rw [k2]
            simp only [takeD_zero, takeD_cons, List.getD_cons_zero, List.getD_cons_succ, D.int_i, Bool.false_eq_true, if_false, show ((1 : Int) == 0) = false from rfl]
      · have h3' : (!((B.length : Int) == (g.N.length : Int))) = true := by simp; omega
        simp only [h3', if_true]
        rw [inE, if_pos h1, if_pos h2, if_neg h3]
    · have h2' : Od.ok ⟨o.md, o.ns, o.rs, o.m, o.rd⟩ = false := Bool.eq_false_iff.2 h2
      simp only [h2', Bool.not_false, if_true]
      rw [inE, if_pos h1, if_neg h2]
  · have hb : (!(validE g == 0)) = true := by simp [h1]
    rw [if_pos hb, inE_err h1]
end Go.Proofs.Ytindllmeeckfcaa.rv
