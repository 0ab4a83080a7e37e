/-
  Scenes of drawings: the walks; the chapter's examples.
-/
import Derived.Test.YthpppbfiiphgoaaZSceneLayersK
namespace Go.RV
open Go.Proofs.Ythpppbfiiphgoaa.rv
theorem ord_len {g : Gd} (hv : validE g = 0) : (ordD g).length = g.C.length := by
  rw [ord_byKey, byKey_all _ _ rfl (dep_ok hv), idI_len]
theorem ord_mem {g : Gd} {x : Int} (h : x ∈ ordD g) : ∃ i : Nat, i < g.C.length ∧ x = (i : Int) := by
  unfold ordD collN at h
  simp only [List.mem_flatMap, List.drop_zero, List.mem_range] at h
  obtain ⟨d, _, i, hi, hx⟩ := h
  split at hx
  · simp only [List.mem_singleton] at hx
    exact ⟨i, hi, hx⟩
  · cases hx
theorem ord_ok {g : Gd} {c : List (List D)} (hc : c.length = g.C.length) : ∀ i, i < ((ordD g).map encI).length → (el ((ordD g).map encI) i).getD 0 default = .i (cI (el ((ordD g).map encI) i) 0) ∧ 0 ≤ cI (el ((ordD g).map encI) i) 0 ∧ cI (el ((ordD g).map encI) i) 0 < c.length := fun i hi => by
  rw [List.length_map] at hi
  have e : el ((ordD g).map encI) i = [.i ((ordD g).getD i 0)] := rowI hi
  obtain ⟨k, hk, hx⟩ := ord_mem (getD_mem (0 : Int) hi)
  rw [e]
  refine ⟨rfl, ?_, ?_⟩
  · show 0 ≤ (ordD g).getD i 0
    omega
  · show (ordD g).getD i 0 < c.length
    omega
theorem grp_coll (c : List (List D)) (o : List Int) : collN (fun i => [gItem c (cI (el (o.map encI) i) 0)]) (o.map encI).length 0 = o.map (gItem c) := by
  rw [coll_map (fun x => gItem c (cI x 0)), List.map_map]
  rfl
theorem fitB_f {g : Gd} {n c r l : List (List D)} (h : fitB g n c r l = false) : validE g = 0 ∧ n.length = g.N.length ∧ c.length = g.C.length ∧ r.length = g.E.length ∧ l.length = g.E.length := by
  simp only [fitB, Bool.or_eq_false_iff, Bool.not_eq_false', beq_iff_eq] at h
  omega
theorem ptsR_of {e : TypeId} {r : List (List D)} (h : ∀ x ∈ r, FitsF [.sl e [.int .i64, .int .i64]] x) (hq : ∀ x ∈ r, (cL x 0).length ≤ 8796093022208) : ptsR r := fun i hi => by
  have hm := getD_mem [] hi
  refine ⟨?_, hq _ hm⟩
  obtain ⟨x, e, hx⟩ := fits1 (h _ hm)
  obtain ⟨ps, rfl, _⟩ := wf_sl hx
  rw [show el r i = [.l ps] from e]
  rfl
theorem fitsDr {e1 e2 e3 e4 e5 e6 : TypeId} {c1 c2 c5 c6 : List CT} {a9 a10 a11 a12 a13 a14 : CT} {ds : List D} (h : FitsF (.sl e1 c1 :: .sl e2 c2 :: .sl e3 [.sl e4 [.int .i64, .int .i64]] :: .sl e5 c5 :: a9 :: a10 :: a11 :: a12 :: a13 :: a14 :: .sl e6 c6 :: []) ds) :
    ∃ (n c r l : List (List D)) (x9 x10 x11 x12 x13 x14 x15 : D), ds = [.l n, .l c, .l r, .l l, x9, x10, x11, x12, x13, x14, x15] ∧ (∀ x ∈ r, FitsF [.sl e4 [.int .i64, .int .i64]] x) ∧ (∀ x ∈ n, FitsF c1 x) ∧ (∀ x ∈ c, FitsF c2 x) ∧ ∀ x ∈ l, FitsF c5 x := by
  match ds, h with
  | [d0, d1, d2, d3, d4, d5, d6, d7, d8, d9, d10], ⟨h0, h1, h2, h3, _⟩ =>
    obtain ⟨n, rfl, _, hn⟩ := wf_sl h0
    obtain ⟨c, rfl, _, hc⟩ := wf_sl h1
    obtain ⟨r, rfl, _, hr⟩ := wf_sl h2
    obtain ⟨l, rfl, _, hl⟩ := wf_sl h3
    exact ⟨n, c, r, l, d4, d5, d6, d7, d8, d9, d10, rfl, hr, hn, hc, hl⟩
end Go.RV
namespace Go.Proofs.Ythpppbfiiphgoaa.rv
set_option maxRecDepth 10000
open Go.RV
theorem m15 : Meets Try.prog 15 S15 (R 15) (F 15) := by
  refine meets_of_vt (pre := R) (Φ := F) mixed (sgAt_all (P := Try.prog) (pre := R) (Φ := F) (l := sg15) (List.forall_mem_cons.2 ⟨Meets.at (pre := R) (Φ := F) m30, List.forall_mem_cons.2 ⟨Meets.at (pre := R) (Φ := F) m31, List.forall_mem_cons.2 ⟨Meets.at (pre := R) (Φ := F) m32, List.forall_mem_cons.2 ⟨Meets.at (pre := R) (Φ := F) m13, List.forall_mem_cons.2 ⟨Meets.at (pre := R) (Φ := F) m11, (fun _ h => nomatch h)⟩⟩⟩⟩⟩)) Try.func15 b15 n15 (loops_n 5 k15 fun k hk => match k, hk with | 0, _ => loop_this lf15_0 loopM15_0 | 1, _ => loop_this lf15_1 loopM15_1 | 2, _ => loop_this lf15_2 loopM15_2 | 3, _ => loop_this lf15_3 loopM15_3 | 4, _ => loop_this lf15_4 loopM15_4) e15 fun ds hf hq => ?_
  obtain ⟨g, ds', rfl, h5, _⟩ := fitsG hf.flat
  obtain ⟨n, c, r, l, x9, x10, x11, x12, x13, x14, x15, rfl, hr, _⟩ := fitsDr h5
  have hq : ∀ x ∈ r, (cL x 0).length ≤ 8796093022208 := hq
  have hval : buildD [.s g.nm, .b g.dr, .l g.N, .l g.E, .l g.C, .l n, .l c, .l r, .l l, x9, x10, x11, x12, x13, x14, x15] = outS (buildS g n c r l) := rfl
  have hv0 : validD [.s g.nm, .b g.dr, .l g.N, .l g.E, .l g.C] = [.i (validE g)] := rfl
  have hfit : ((((!(validE g == 0) || !((n.length : Int) == (g.N.length : Int))) || !((c.length : Int) == (g.C.length : Int))) || !((r.length : Int) == (g.E.length : Int))) || !((l.length : Int) == (g.E.length : Int))) = fitB g n c r l := rfl
  rw [show F 15 = buildD from rfl]
  show VT.ok F [.s g.nm, .b g.dr, .l g.N, .l g.E, .l g.C, .l n, .l c, .l r, .l l, x9, x10, x11, x12, x13, x14, x15] R (fun out => out = buildD [.s g.nm, .b g.dr, .l g.N, .l g.E, .l g.C, .l n, .l c, .l r, .l l, x9, x10, x11, x12, x13, x14, x15]) vt15
  rw [hval]
  cases h1 : fitB g n c r l
  · obtain ⟨k0, k1, k2, k3, k4⟩ := fitB_f h1
    obtain ⟨⟨m1, m2, m3⟩, _⟩ := valid_parts k0
    have hord := ord_len k0
    have hps := ptsR_of hr hq
    have hbd : ∀ I : List (List D), bdsD [.l I] = [.i (bndS I).1, .i (bndS I).2.1, .i (bndS I).2.2.1, .i (bndS I).2.2.2] := fun _ => rfl
    have hva : ∀ I : List (List D), valD [.i (bndS I).1, .i (bndS I).2.1, .i (bndS I).2.2.1, .i (bndS I).2.2.2, .l I] = [.i (validS I (bndS I))] := fun _ => rfl
    have s1 : ((ordD g).map (gItem c)).length ≤ 16 := by rw [List.length_map, hord]; exact m3
    have s2 := coll_len (f := fun i => [rItem r i]) (n := g.E.length) (i := 0) (m := 1) (fun _ => Nat.le_refl _)
    have s3 := coll_len (f := fun i => [nItem n i]) (n := g.N.length) (i := 0) (m := 1) (fun _ => Nat.le_refl _)
    have s4 := coll_len (f := lItem g.N 1 n) (n := g.N.length) (i := 0) (m := 1) (lItem_len g.N 1 n)
    have s5 := coll_len (f := mItem g.E l) (n := g.E.length) (i := 0) (m := 1) (mItem_len g.E l)
    have hI : ((((((ordD g).map (gItem c)) ++ collN (fun i => [rItem r i]) g.E.length 0) ++ collN (fun i => [nItem n i]) g.N.length 0) ++ collN (lItem g.N 1 n) g.N.length 0) ++ collN (mItem g.E l) g.E.length 0) = itemsD g n c r l := rfl
    have t2 : (((ordD g).map (gItem c)) ++ collN (fun i => [rItem r i]) g.E.length 0).length ≤ 1000 := by simp only [List.length_append]; omega
    have t3 : ((((ordD g).map (gItem c)) ++ collN (fun i => [rItem r i]) g.E.length 0) ++ collN (fun i => [nItem n i]) g.N.length 0).length ≤ 1000 := by simp only [List.length_append]; omega
    have t4 : (((((ordD g).map (gItem c)) ++ collN (fun i => [rItem r i]) g.E.length 0) ++ collN (fun i => [nItem n i]) g.N.length 0) ++ collN (lItem g.N 1 n) g.N.length 0).length ≤ 1000 := by simp only [List.length_append]; omega
    have t5 : ((((((ordD g).map (gItem c)) ++ collN (fun i => [rItem r i]) g.E.length 0) ++ collN (fun i => [nItem n i]) g.N.length 0) ++ collN (lItem g.N 1 n) g.N.length 0) ++ collN (mItem g.E l) g.E.length 0).length ≤ 1000 := by simp only [List.length_append]; omega
    have hgr : grpsD [.s g.nm, .b g.dr, .l g.N, .l g.E, .l g.C] = [.l ((ordD g).map encI)] := rfl
    have l0 : lpB0 [.l ((ordD g).map encI), .i (((ordD g).map encI).length : Int), .i 0, .l n, .l c, .l r, .l l, x9, x10, x11, x12, x13, x14, x15, .i 0, .i 0, .i 0, .i 0, .l []] = [.i 0, .i (((ordD g).map encI).length : Int), .l ((ordD g).map (gItem c))] := by
      rw [← grp_coll c (ordD g)]; rfl
    have p0 : prB0 [.l ((ordD g).map encI), .i (((ordD g).map encI).length : Int), .i 0, .l n, .l c, .l r, .l l, x9, x10, x11, x12, x13, x14, x15, .i 0, .i 0, .i 0, .i 0, .l []] := ⟨_, _, _, _, _, _, _, _, _, _, _, _, _, _, (ordD g).map encI, c, [], 0, rfl, Nat.zero_le _, by rw [List.length_map, hord]; omega, by show (0 : Nat) ≤ _; omega, ord_ok (by omega)⟩
    rw [List.length_map] at l0 p0
    have l1 : lpB1 [.i (g.E.length : Int), .i 0, .l n, .l c, .l r, .l l, x9, x10, x11, x12, x13, x14, x15, .i 0, .i 0, .i 0, .i 0, .l ((ordD g).map (gItem c))] = [.i 0, .i (g.E.length : Int), .l (((ordD g).map (gItem c)) ++ collN (fun i => [rItem r i]) g.E.length 0)] := rfl
    have p1 : prB1 [.i (g.E.length : Int), .i 0, .l n, .l c, .l r, .l l, x9, x10, x11, x12, x13, x14, x15, .i 0, .i 0, .i 0, .i 0, .l ((ordD g).map (gItem c))] := ⟨_, _, _, _, _, _, _, _, _, _, _, _, _, _, g.E.length, r, _, 0, rfl, Nat.zero_le _, m2, by omega, by omega, hps⟩
    have l2 : lpB2 [.i (g.N.length : Int), .i 0, .l n, .l c, .l r, .l l, x9, x10, x11, x12, x13, x14, x15, .i 0, .i 0, .i 0, .i 0, .l (((ordD g).map (gItem c)) ++ collN (fun i => [rItem r i]) g.E.length 0)] = [.i 0, .i (g.N.length : Int), .l ((((ordD g).map (gItem c)) ++ collN (fun i => [rItem r i]) g.E.length 0) ++ collN (fun i => [nItem n i]) g.N.length 0)] := rfl
    have p2 : prB2 [.i (g.N.length : Int), .i 0, .l n, .l c, .l r, .l l, x9, x10, x11, x12, x13, x14, x15, .i 0, .i 0, .i 0, .i 0, .l (((ordD g).map (gItem c)) ++ collN (fun i => [rItem r i]) g.E.length 0)] := ⟨_, _, _, _, _, _, _, _, _, _, _, _, _, _, g.N.length, n, _, 0, rfl, Nat.zero_le _, by omega, by omega, by omega⟩
    have l3 : lpB3 [.l g.N, .i (g.N.length : Int), .i 0, .l n, .l c, .l r, .l l, x9, x10, x11, x12, x13, x14, x15, .i 0, .i 0, .i 0, .i 0, .l ((((ordD g).map (gItem c)) ++ collN (fun i => [rItem r i]) g.E.length 0) ++ collN (fun i => [nItem n i]) g.N.length 0)] = [.i 0, .i (g.N.length : Int), .l (((((ordD g).map (gItem c)) ++ collN (fun i => [rItem r i]) g.E.length 0) ++ collN (fun i => [nItem n i]) g.N.length 0) ++ collN (lItem g.N 1 n) g.N.length 0)] := rfl
    have p3 : prB3 [.l g.N, .i (g.N.length : Int), .i 0, .l n, .l c, .l r, .l l, x9, x10, x11, x12, x13, x14, x15, .i 0, .i 0, .i 0, .i 0, .l ((((ordD g).map (gItem c)) ++ collN (fun i => [rItem r i]) g.E.length 0) ++ collN (fun i => [nItem n i]) g.N.length 0)] := ⟨_, _, _, _, _, _, _, _, _, _, _, _, _, _, g.N, n, _, 0, rfl, Nat.zero_le _, by omega, by omega, by omega⟩
    have l4 : lpB4 [.l g.E, .i (g.E.length : Int), .i 0, .l n, .l c, .l r, .l l, x9, x10, x11, x12, x13, x14, x15, .i 0, .i 0, .i 0, .i 0, .l (((((ordD g).map (gItem c)) ++ collN (fun i => [rItem r i]) g.E.length 0) ++ collN (fun i => [nItem n i]) g.N.length 0) ++ collN (lItem g.N 1 n) g.N.length 0)] = [.i 0, .i (g.E.length : Int), .l ((((((ordD g).map (gItem c)) ++ collN (fun i => [rItem r i]) g.E.length 0) ++ collN (fun i => [nItem n i]) g.N.length 0) ++ collN (lItem g.N 1 n) g.N.length 0) ++ collN (mItem g.E l) g.E.length 0)] := rfl
    have p4 : prB4 [.l g.E, .i (g.E.length : Int), .i 0, .l n, .l c, .l r, .l l, x9, x10, x11, x12, x13, x14, x15, .i 0, .i 0, .i 0, .i 0, .l (((((ordD g).map (gItem c)) ++ collN (fun i => [rItem r i]) g.E.length 0) ++ collN (fun i => [nItem n i]) g.N.length 0) ++ collN (lItem g.N 1 n) g.N.length 0)] := ⟨_, _, _, _, _, _, _, _, _, _, _, _, _, _, g.E, l, _, 0, rfl, Nat.zero_le _, m2, by omega, by omega⟩
    have hbp : bdPre [.l ((((((ordD g).map (gItem c)) ++ collN (fun i => [rItem r i]) g.E.length 0) ++ collN (fun i => [nItem n i]) g.N.length 0) ++ collN (lItem g.N 1 n) g.N.length 0) ++ collN (mItem g.E l) g.E.length 0)] := by show ((((((ordD g).map (gItem c)) ++ collN (fun i => [rItem r i]) g.E.length 0) ++ collN (fun i => [nItem n i]) g.N.length 0) ++ collN (lItem g.N 1 n) g.N.length 0) ++ collN (mItem g.E l) g.E.length 0).length ≤ 1000000; omega
    have hB : buildS g n c r l = if validS ((((((ordD g).map (gItem c)) ++ collN (fun i => [rItem r i]) g.E.length 0) ++ collN (fun i => [nItem n i]) g.N.length 0) ++ collN (lItem g.N 1 n) g.N.length 0) ++ collN (mItem g.E l) g.E.length 0) (bndS ((((((ordD g).map (gItem c)) ++ collN (fun i => [rItem r i]) g.E.length 0) ++ collN (fun i => [nItem n i]) g.N.length 0) ++ collN (lItem g.N 1 n) g.N.length 0) ++ collN (mItem g.E l) g.E.length 0)) = 0 then (bndS ((((((ordD g).map (gItem c)) ++ collN (fun i => [rItem r i]) g.E.length 0) ++ collN (fun i => [nItem n i]) g.N.length 0) ++ collN (lItem g.N 1 n) g.N.length 0) ++ collN (mItem g.E l) g.E.length 0), ((((((ordD g).map (gItem c)) ++ collN (fun i => [rItem r i]) g.E.length 0) ++ collN (fun i => [nItem n i]) g.N.length 0) ++ collN (lItem g.N 1 n) g.N.length 0) ++ collN (mItem g.E l) g.E.length 0), 0) else (z4, [], validS ((((((ordD g).map (gItem c)) ++ collN (fun i => [rItem r i]) g.E.length 0) ++ collN (fun i => [nItem n i]) g.N.length 0) ++ collN (lItem g.N 1 n) g.N.length 0) ++ collN (mItem g.E l) g.E.length 0) (bndS ((((((ordD g).map (gItem c)) ++ collN (fun i => [rItem r i]) g.E.length 0) ++ collN (fun i => [nItem n i]) g.N.length 0) ++ collN (lItem g.N 1 n) g.N.length 0) ++ collN (mItem g.E l) g.E.length 0))) := by
      rw [hI]; unfold buildS; rw [h1, if_neg (by decide)]
    simp only [vt15, VT.ok, Nd.holds, X.outs, X.ds, X.d, Op1.ev, Op2.ev, takeD_zero, takeD_cons, List.cons_append, List.nil_append, List.getD_cons_zero, List.getD_cons_succ, D.int_i, D.bool_b, D.lst_l, ite_b, ite_or, List.length_map, Bool.false_eq_true, if_false, implies_true, true_and, F30, R30, F13, R13, F11, R11, F31, R31, F11500, R11500, F11501, R11501, F11502, R11502, F11503, R11503, F11504, R11504, hv0, hfit, h1, hgr, l0, l1, l2, l3, l4, hbd, hva]
    refine ⟨fun _ => k0, fun _ => p0, fun _ => p1, fun _ => p2, fun _ => p3, fun _ => p4, fun _ => hbp, ?_⟩
    rw [hB]
    by_cases hz : validS ((((((ordD g).map (gItem c)) ++ collN (fun i => [rItem r i]) g.E.length 0) ++ collN (fun i => [nItem n i]) g.N.length 0) ++ collN (lItem g.N 1 n) g.N.length 0) ++ collN (mItem g.E l) g.E.length 0) (bndS ((((((ordD g).map (gItem c)) ++ collN (fun i => [rItem r i]) g.E.length 0) ++ collN (fun i => [nItem n i]) g.N.length 0) ++ collN (lItem g.N 1 n) g.N.length 0) ++ collN (mItem g.E l) g.E.length 0)) = 0
    · rw [beq_t hz, if_pos hz]; rfl
    · rw [beq_f hz, if_neg hz]; rfl
  · have hB : buildS g n c r l = (z4, [], 1) := by unfold buildS; rw [h1, if_pos rfl]
    simp only [vt15, VT.ok, Nd.holds, X.outs, X.ds, X.d, Op1.ev, Op2.ev, takeD_zero, takeD_cons, List.cons_append, List.nil_append, List.getD_cons_zero, List.getD_cons_succ, D.int_i, D.bool_b, D.lst_l, ite_b, ite_or, if_true, implies_true, true_and, takeD1_0, F30, R30, F13, R13, F11, R11, F31, R31, F11500, R11500, F11501, R11501, F11502, R11502, F11503, R11503, F11504, R11504, hv0, hfit, h1, hB]
    rfl
def awI : List (List D) := [[.i 2, .i 0, .i 0, .i 0, .i 20, .i 10, .l [], .s ⟨#[]⟩], [.i 4, .i 0, .i 0, .i 0, .i 20, .i 10, .l [], .s ⟨#[97]⟩]]
theorem aw1 : buildD [.s ⟨#[103]⟩, .b false, .l [[.s ⟨#[97]⟩, .s ⟨#[97]⟩, .i 20, .i 10, .i (-1), .l []]], .l [], .l [], .l [[.i 0, .i 0, .i 20, .i 10]], .l [], .l [], .l [], .i 0, .i 0, .i 0, .i 0, .i 0, .i 0, .l []] = [.i 0, .i 0, .i 20, .i 10, .l awI, .i 0] := by kernel_rfl
theorem aw2 : buildD [.s ⟨#[103]⟩, .b false, .l [[.s ⟨#[97]⟩, .s ⟨#[97]⟩, .i 20, .i 10, .i (-1), .l []]], .l [], .l [], .l [], .l [], .l [], .l [], .i 0, .i 0, .i 0, .i 0, .i 0, .i 0, .l []] = [.i 0, .i 0, .i 0, .i 0, .l [], .i 1] := by kernel_rfl
theorem aw3 : moveD [.i 0, .i 0, .i 20, .i 10, .l awI, .i 268435456, .i 0] = [.i 0, .i 0, .i 0, .i 0, .l [], .i 3] := by kernel_rfl
theorem aw4 : moveD [.i 0, .i 0, .i 20, .i 10, .l awI, .i 1, .i 2] = [.i 1, .i 2, .i 21, .i 12, .l (awI.map (mvI 1 2)), .i 0] := by kernel_rfl
theorem aw5 : valD [.i 5, .i 5, .i 5, .i 5, .l [[.i 3, .i 0, .i 0, .i 0, .i 0, .i 0, .l [[.i 5, .i 5]], .s ⟨#[]⟩]]] = [.i 0] := by kernel_rfl
theorem aw6 : valD [.i 0, .i 0, .i 5, .i 5, .l [[.i 3, .i 0, .i 0, .i 0, .i 0, .i 0, .l [[.i 5, .i 5]], .s ⟨#[]⟩]]] = [.i 13] := by kernel_rfl
theorem m10 : Meets Try.prog 10 S10 (R 10) (F 10) := by
  refine meets_of_vt (pre := R) (Φ := F) mixed (sgAt_all (P := Try.prog) (pre := R) (Φ := F) (l := sg10) (List.forall_mem_cons.2 ⟨Meets.at (pre := R) (Φ := F) m15, List.forall_mem_cons.2 ⟨Meets.at (pre := R) (Φ := F) m18, List.forall_mem_cons.2 ⟨Meets.at (pre := R) (Φ := F) m11, (fun _ h => nomatch h)⟩⟩⟩)) Try.func10 b10 n10 (loops_n 0 k10 fun k hk => by omega) e10 fun ds hf hq => ?_
  have e0 := fits0 hf.flat
  subst e0
  have hp : ∀ a b c d e f g h x9 x10 x11 x12 x13 x14 x15 : D, prBuild [a, b, c, d, e, f, g, .l [], h, x9, x10, x11, x12, x13, x14, x15] := fun _ _ _ _ _ _ _ _ _ _ _ _ _ _ _ x hx => by cases hx
  have el : ((awI.length : Nat) : Int) = 2 := rfl
  have e1 : awI.getD (1 : Int).toNat [] = [.i 4, .i 0, .i 0, .i 0, .i 20, .i 10, .l [], .s ⟨#[97]⟩] := rfl
  simp only [vt10, VT.ok, Nd.holds, X.outs, X.ds, X.d, Op1.ev, Op2.ev, takeD_zero, takeD_cons, List.cons_append, List.nil_append, List.getD_cons_zero, List.getD_cons_succ, D.int_i, D.bool_b, D.lst_l, ite_b, ite_and, implies_true, true_and, F11, R11, F18, R18, F15, R15, F10, aw1, aw2, aw3, aw4, aw5, aw6, el, e1]
  refine ⟨fun _ => hp _ _ _ _ _ _ _ _ _ _ _ _ _ _ _, fun _ => hp _ _ _ _ _ _ _ _ _ _ _ _ _ _ _, ?_⟩
  trivial
end Go.Proofs.Ythpppbfiiphgoaa.rv
