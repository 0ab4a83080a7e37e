/-
  Clusters by depth: the sort of Go's library on short lists.; Scenes of drawings: the loops.; Scenes of drawings: the walks; the chapter's examples.
-/
import Derived.Test.YthpppbfiiphgoaaZSceneBuildsK
namespace Go.RV
theorem up_len (C : List (List D)) : ∀ (f : Nat) (c : Int), (up C f c).length ≤ f
  | 0, _ => Nat.le_refl _
  | f + 1, c => by
    rw [up]
    split
    · rw [List.length_cons]
      have := up_len C f (cI (el C c.toNat) 1)
      omega
    · simp
theorem depE_bd {g : Gd} {c : Int} (_h0 : -1 ≤ c) (h1 : c < 64) : 0 ≤ depE g c ∧ depE g c ≤ 65 := by
  unfold depE
  split
  · have := up_len g.C (c.toNat + 1) c
    unfold depth around
    omega
  · omega
theorem swp_all {p : Int → Prop} (h0 : p 0) {l : List Int} (h : ∀ c ∈ l, p c) (j : Nat) : ∀ c ∈ swp l j, p c := by
  have hg : ∀ i, p (l.getD i 0) := fun i => by
    by_cases hi : i < l.length
    · exact h _ (getD_mem 0 hi)
    · have e : l.getD i 0 = 0 := by simp [List.getD, List.getElem?_eq_none (by omega : l.length ≤ i)]
      rw [e]; exact h0
  intro c hc
  unfold swp at hc
  rcases List.mem_or_eq_of_mem_set hc with h1 | h1
  · rcases List.mem_or_eq_of_mem_set h1 with h2 | h2
    · exact h c h2
    · rw [h2]; exact hg _
  · rw [h1]; exact hg _
theorem bub_all {p : Int → Prop} (h0 : p 0) {k : Int → Int} : ∀ (j : Nat) (l : List Int), (∀ c ∈ l, p c) → ∀ c ∈ (bub k j l).2, p c
  | 0, l, h => h
  | j + 1, l, h => by
    rw [bub]
    split
    · exact bub_all h0 j _ (swp_all h0 h j)
    · exact h
theorem gOfC_clo (f : FuncId) (cts : List CT) (g : Gd) : gOfC (cloG f cts g) = g := rfl
theorem isrt_end {k : Int → Int} {n i : Nat} (h : n ≤ i) (l : List Int) : isrt k n i l = l := by
  unfold isrt foldN
  rw [List.drop_eq_nil_of_le (by simpa using h)]
  rfl
theorem isrt_next {k : Int → Int} {n i : Nat} (h : i < n) (l : List Int) : isrt k n i l = isrt k n (i + 1) (bub k i l).2 := by
  unfold isrt
  rw [fold_next h]
theorem idI_len (n : Nat) : (idI n).length = n := by simp [idI]
theorem dep_ok {g : Gd} (hv : validE g = 0) : ∀ x ∈ idI g.C.length, 1 ≤ kD g x ∧ kD g x ≤ 6 := by
  intro x hx
  unfold idI at hx
  rw [List.mem_map] at hx
  obtain ⟨i, hi, rfl⟩ := hx
  rw [List.mem_range] at hi
  have hc := (Go.Proofs.Ythpppbfiiphgoaa.rv.valid_parts hv).2.2.2.1 i hi
  unfold kD depE
  rw [if_pos ⟨hv, by omega, by omega⟩]
  refine ⟨depth_pos _ (by omega), ?_⟩
  unfold cluE at hc
  split at hc
  · split at hc
    · omega
    · split at hc
      · omega
      · split at hc
        · omega
        · omega
  · omega
theorem fil_coll (p : Int → Bool) (n : Nat) : collN (fun i => if p (i : Int) = true then [(i : Int)] else []) n 0 = (idI n).filter p := by
  unfold collN idI
  rw [List.drop_zero]
  generalize List.range n = l
  induction l with
  | nil => rfl
  | cons a l ih =>
    rw [List.flatMap_cons, ih, List.map_cons, List.filter_cons]
    split <;> simp
theorem ord_byKey (g : Gd) : ordD g = byKey (kD g) (idI g.C.length) 6 := by
  unfold ordD
  have e : ∀ d : Nat, collN (fun i => if (depE g (i : Int) == (d : Int)) = true then [(i : Int)] else []) g.C.length 0 = (idI g.C.length).filter fun x => kD g x == (d : Int) := fun d => fil_coll (fun x => depE g x == (d : Int)) _
  have e2 : (List.range 7).drop 1 = [1, 2, 3, 4, 5, 6] := rfl
  unfold collN at e ⊢
  rw [e2]
  simp only [List.flatMap_cons, List.flatMap_nil, e, byKey, List.nil_append, List.append_nil, List.append_assoc]
theorem srt_ord {g : Gd} (hv : validE g = 0) : isrt (kD g) g.C.length 1 (idI g.C.length) = ordD g := by
  rw [ord_byKey, ← isrt_all (dep_ok hv), idI_len]
end Go.RV
namespace Go.Proofs.Ythpppbfiiphgoaa.rv
set_option maxRecDepth 10000
open Go.RV
theorem m52 : Meets Try.prog 52 S52 (R 52) (F 52) := by
  refine meets_of_vt (pre := R) (Φ := F) mixed (sgAt_all (P := Try.prog) (pre := R) (Φ := F) (l := sg52) (List.forall_mem_cons.2 ⟨Meets.at (pre := R) (Φ := F) m53, (fun _ h => nomatch h)⟩)) Try.func52 b52 n52 (loops_n 0 k52 fun k hk => by omega) e52 fun ds hf hq => ?_
  obtain ⟨g, a, b, rfl, hv, ha, hb⟩ : prClp ds := hq
  have k1 := depE_bd (g := g) ha.1 ha.2
  have k2 := depE_bd (g := g) hb.1 hb.2
  have e1 : ∀ c : Int, depED [.s g.nm, .b g.dr, .l g.N, .l g.E, .l g.C, .i c] = [.i (depE g c)] := fun _ => rfl
  have e2 : IntKind.i64.wrap (depE g a - depE g b) = depE g a - depE g b := w64 (by omega)
  simp only [vt52, VT.ok, Nd.holds, X.outs, X.ds, X.d, Op2.ev, takeD_zero, takeD_cons, List.cons_append, List.nil_append, List.getD_cons_zero, List.getD_cons_succ, D.int_i, D.bool_b, implies_true, true_and, F53, R53, F52, D.ptd_p, Gd.ds, e1, e2]
  rfl
theorem m24004 : Meets Try.prog 24004 S24004 (R 24004) (F 24004) := by
  refine meets_dyn (by decide) rfl fun d ds hf hp => ?_
  obtain ⟨g, a, b, e, hv, ha, hb⟩ : dpDep 52 ctsG (d :: ds) := hp
  cases e
  exact ⟨52, [.pt ctsG], [.p g.ds], S52, _, F 52, rfl, by decide, m52, rfl, rfl, ⟨g, a, b, rfl, hv, ha, hb⟩, rfl⟩
theorem loopM85_1 : LoopMeets Try.prog F (R L85_1.key) L85_1 lb85_1 := by
  refine loop_meets (pre := R) mixed (sgAt_all (P := Try.prog) (pre := R) (Φ := F) (l := sg85) (List.forall_mem_cons.2 ⟨Meets.at (pre := R) (Φ := F) m24004, (fun _ h => nomatch h)⟩)) (loops_n 0 lk85_1 fun k hk => by omega) L85_1 (fun ρ => (ρ.getD 2 default).int.toNat) le85_1 fun ρ _ hq => ?_
  obtain ⟨g, l, j, rfl, hj, hv, hl, hb⟩ : prSr1 52 ctsG ρ := hq
  have hlp : ∀ (l : List Int) (j : Nat), lpSr1 [.i 0, cloG 52 ctsG g, .i (j : Int), .l (l.map encI)] = [.i 0, .i ((bub (kD g) j l).1 : Int), .l ((bub (kD g) j l).2.map encI)] := fun l j => by
    have e : lpSr1 [.i 0, cloG 52 ctsG g, .i (j : Int), .l (l.map encI)] = [.i 0, .i ((bub (kD g) j (lsI (l.map encI))).1 : Int), .l ((bub (kD g) j (lsI (l.map encI))).2.map encI)] := rfl
    rw [e, lsI_enc]
  cases j with
  | zero =>
    have c0 : decide ((0 : Int) < ((0 : Nat) : Int)) = false := rfl
    simp only [rt85_1, VT.ok, Nd.holds, X.outs, X.ds, X.d, Op1.ev, Op2.ev, List.cons_append, List.nil_append, List.getD_cons_zero, List.getD_cons_succ, D.int_i, D.bool_b, D.lst_l, Int.toNat_natCast, List.length_map, Bool.false_eq_true, if_false, true_and, false_implies, takeD1_0, c0]
    refine round_exit (by omega) ?_
    show lpSr1 _ = _
    rw [hlp]
    rfl
  | succ j =>
    have eX : (l.map encI).getD (j + 1) [] = [.i (l.getD (j + 1) 0)] := rowI hj
    have eY : (l.map encI).getD j [] = [.i (l.getD j 0)] := rowI (by omega)
    have eZ : ((l.set (j + 1) (l.getD j 0)).map encI).getD j [] = [.i ((l.set (j + 1) (l.getD j 0)).getD j 0)] := rowI (by rw [List.length_set]; omega)
    have hx := hb _ (getD_mem 0 hj)
    have hy := hb _ (getD_mem 0 (by omega : j < l.length))
    have c0 : decide ((0 : Int) < ((j + 1 : Nat) : Int)) = true := decide_eq_true (by omega)
    have c1 : decide ((0 : Int) ≤ ((j + 1 : Nat) : Int)) = true := decide_eq_true (by omega)
    have c2 : decide (((j + 1 : Nat) : Int) < (l.length : Int)) = true := decide_eq_true (by omega)
    have c3 : IntKind.i64.wrap (((j + 1 : Nat) : Int) - 1) = (j : Int) := by rw [w64 (by omega)]; omega
    have c4 : decide ((0 : Int) ≤ (j : Int)) = true := decide_eq_true (by omega)
    have c5 : decide ((j : Int) < (l.length : Int)) = true := decide_eq_true (by omega)
    have hdy : dyDep [cloG 52 ctsG g, .i (l.getD (j + 1) 0), .i (l.getD j 0)] = [.i (kD g (l.getD (j + 1) 0) - kD g (l.getD j 0))] := rfl
    have hdp : dpDep 52 ctsG [cloG 52 ctsG g, .i (l.getD (j + 1) 0), .i (l.getD j 0)] := ⟨g, _, _, rfl, hv, hx, hy⟩
    simp only [rt85_1, VT.ok, Nd.holds, X.outs, X.ds, X.d, Op1.ev, Op2.ev, takeD_zero, takeD_cons, List.cons_append, List.nil_append, List.getD_cons_zero, List.getD_cons_succ, D.int_i, D.bool_b, D.lst_l, Int.toNat_natCast, List.length_map, if_true, implies_true, true_and, F24004, R24004, c0, c1, c2, c3, c4, c5, eX, eY, hdy, splI, setI, eZ, List.length_set]
    refine ⟨fun _ => hdp, ?_⟩
    by_cases hk : kD g (l.getD (j + 1) 0) < kD g (l.getD j 0)
    · rw [decide_eq_true (by omega : kD g (l.getD (j + 1) 0) - kD g (l.getD j 0) < 0), if_pos rfl]
      refine round_next ⟨⟨g, swp l j, j, rfl, by rw [swp_len]; omega, hv, by rw [swp_len]; exact hl, swp_all (p := fun c => -1 ≤ c ∧ c < 64) (by omega) hb j⟩, ?_, ?_⟩
      · show ((j : Nat) : Int).toNat < ((j + 1 : Nat) : Int).toNat
        omega
      · show lpSr1 [.i 0, cloG 52 ctsG g, .i (j : Int), .l ((swp l j).map encI)] = lpSr1 [.i 0, cloG 52 ctsG g, .i ((j + 1 : Nat) : Int), .l (l.map encI)]
        rw [hlp, hlp, bub, if_pos hk]
    · rw [decide_eq_false (by omega : ¬ kD g (l.getD (j + 1) 0) - kD g (l.getD j 0) < 0), if_neg (by decide)]
      refine round_exit (by omega) ?_
      show lpSr1 _ = _
      rw [hlp, bub, if_neg hk]
theorem loopM85_0 : LoopMeets Try.prog F (R L85_0.key) L85_0 lb85_0 := by
  refine loop_meets (pre := R) mixed (sgAt_all (P := Try.prog) (pre := R) (Φ := F) (l := sg85) (List.forall_mem_cons.2 ⟨Meets.at (pre := R) (Φ := F) m24004, (fun _ h => nomatch h)⟩)) (loops_n 1 lk85_0 fun k hk => match k, hk with | 0, _ => by rw [li85_0_0]; exact loop_this lf85_1 loopM85_1) L85_0 (fun ρ => ((ρ.getD 1 default).int - (ρ.getD 3 default).int).toNat) le85_0 fun ρ _ hq => ?_
  obtain ⟨g, l, j, rfl, hj, hv, hl, hb⟩ : prSr0 52 ctsG ρ := hq
  have hlp : ∀ (l : List Int) (n j : Nat), lpSr0 [.i 0, .i (n : Int), cloG 52 ctsG g, .i (j : Int), .l (l.map encI)] = [.i 0, .i (max (n : Int) (j : Int)), .l ((isrt (kD g) n j l).map encI)] := fun l n j => by
    have e : lpSr0 [.i 0, .i (n : Int), cloG 52 ctsG g, .i (j : Int), .l (l.map encI)] = [.i 0, .i (max (n : Int) (j : Int)), .l ((isrt (kD g) n j (lsI (l.map encI))).map encI)] := rfl
    rw [e, lsI_enc]
  by_cases hlt : j < l.length
  · have h1 : lpSr1 [.i 0, cloG 52 ctsG g, .i (j : Int), .l (l.map encI)] = [.i 0, .i ((bub (kD g) j l).1 : Int), .l ((bub (kD g) j l).2.map encI)] := by
      have e : lpSr1 [.i 0, cloG 52 ctsG g, .i (j : Int), .l (l.map encI)] = [.i 0, .i ((bub (kD g) j (lsI (l.map encI))).1 : Int), .l ((bub (kD g) j (lsI (l.map encI))).2.map encI)] := rfl
      rw [e, lsI_enc]
    have hp : prSr1 52 ctsG [.i 0, cloG 52 ctsG g, .i (j : Int), .l (l.map encI)] := ⟨g, l, j, rfl, hlt, hv, hl, hb⟩
    have c0 : decide ((j : Int) < (l.length : Int)) = true := decide_eq_true (by omega)
    have c1 : IntKind.i64.wrap ((j : Int) + 1) = ((j + 1 : Nat) : Int) := nat_wrap (by omega)
    simp only [rt85_0, VT.ok, Nd.holds, X.outs, X.ds, X.d, Op2.ev, takeD_zero, takeD_cons, List.cons_append, List.nil_append, List.getD_cons_zero, List.getD_cons_succ, D.int_i, D.bool_b, if_true, F18500, R18500, c0, c1, h1]
    refine ⟨fun _ => hp, ?_⟩
    refine round_next ⟨⟨g, (bub (kD g) j l).2, j + 1, by rw [bub_len]; rfl, by omega, hv, by rw [bub_len]; exact hl, bub_all (p := fun c => -1 ≤ c ∧ c < 64) (by omega) j l hb⟩, ?_, ?_⟩
    · show ((l.length : Int) - ((j + 1 : Nat) : Int)).toNat < ((l.length : Int) - (j : Int)).toNat
      omega
    · show lpSr0 [.i 0, .i (l.length : Int), cloG 52 ctsG g, .i ((j + 1 : Nat) : Int), .l ((bub (kD g) j l).2.map encI)] = lpSr0 [.i 0, .i (l.length : Int), cloG 52 ctsG g, .i (j : Int), .l (l.map encI)]
      rw [hlp, hlp, isrt_next hlt, Int.max_eq_left (by omega), Int.max_eq_left (by omega)]
  · have c0 : decide ((j : Int) < (l.length : Int)) = false := decide_eq_false (by omega)
    simp only [rt85_0, VT.ok, Nd.holds, X.outs, X.ds, X.d, Op2.ev, List.cons_append, List.nil_append, List.getD_cons_zero, List.getD_cons_succ, D.int_i, D.bool_b, Bool.false_eq_true, if_false, c0]
    refine round_exit (by omega) ?_
    show lpSr0 [.i 0, .i (l.length : Int), cloG 52 ctsG g, .i (j : Int), .l (l.map encI)] = _
    rw [hlp, isrt_end (by omega), Int.max_eq_right (by omega)]
theorem srt_of (g : Gd) (f : FuncId) (cts : List CT) (l : List Int) : srt1 (cloG f cts g) (l.map encI) = .l ((isrt (kD g) l.length 1 l).map encI) := by
  unfold srt1
  rw [gOfC_clo, lsI_enc, List.length_map]
theorem m85 : MeetsRow Try.prog 85 S85 (qRow S85) (R 85) (F 85) := by
  refine meets_row (pre := R) (Φ := F) mixed (sgAt_all (P := Try.prog) (pre := R) (Φ := F) (l := sg85) (List.forall_mem_cons.2 ⟨Meets.at (pre := R) (Φ := F) m24004, (fun _ h => nomatch h)⟩)) Try.func85 b85 n85 (loops_n 2 k85 fun k hk => match k, hk with | 0, _ => loop_this lf85_0 loopM85_0 | 1, _ => loop_this lf85_1 loopM85_1) e85 rfl rfl rfl fun ds hf hq => ?_
  obtain ⟨g, l, rfl, hs⟩ : prIns 52 ctsG ds := hq
  have hval : insD [.l (l.map encI), .i 0, .i (l.length : Int), cloG 52 ctsG g] = [.l ((isrt (kD g) l.length 1 l).map encI)] := by
    show [srt1 (cloG 52 ctsG g) (l.map encI)] = _
    rw [srt_of]
  rw [show F 85 = insD from rfl, hval]
  have c1 : IntKind.i64.wrap ((0 : Int) + 1) = ((1 : Nat) : Int) := w64 (by omega)
  have hlp : lpSr0 [.i 0, .i (l.length : Int), cloG 52 ctsG g, .i ((1 : Nat) : Int), .l (l.map encI)] = [.i 0, .i (max (l.length : Int) ((1 : Nat) : Int)), .l ((isrt (kD g) l.length 1 l).map encI)] := by
    have e : lpSr0 [.i 0, .i (l.length : Int), cloG 52 ctsG g, .i ((1 : Nat) : Int), .l (l.map encI)] = [.i 0, .i (max (l.length : Int) ((1 : Nat) : Int)), .l ((isrt (kD g) l.length 1 (lsI (l.map encI))).map encI)] := rfl
    rw [e, lsI_enc]
  have hp : prSr0 52 ctsG [.i 0, .i (l.length : Int), cloG 52 ctsG g, .i ((1 : Nat) : Int), .l (l.map encI)] := ⟨g, l, 1, rfl, Nat.le_refl _, hs⟩
  simp only [vt85, VT.ok, Nd.holds, X.outs, X.ds, X.d, Op2.ev, takeD_zero, takeD_cons, List.cons_append, List.nil_append, List.getD_cons_zero, List.getD_cons_succ, D.int_i, D.bool_b, and_true, F18501, R18501, c1, hlp]
  exact fun _ => hp
theorem m86 : MeetsRow Try.prog 86 S86 (qRow S86) (R 86) (F 86) := meetsRow_none Try.func86 b86 n86
theorem loopM73_0 : LoopMeets Try.prog F (R L73_0.key) L73_0 lb73_0 := by
  refine loop_meets (pre := R) mixed (sgAt_all (P := Try.prog) (pre := R) (Φ := F) (l := sg73) (List.forall_mem_cons.2 ⟨MeetsRow.at (pre := R) (Φ := F) m85, List.forall_mem_cons.2 ⟨MeetsRow.at (pre := R) (Φ := F) m86, (fun _ h => nomatch h)⟩⟩)) (loops_n 0 lk73_0 fun k hk => by omega) L73_0 (fun ρ => 0) le73_0 fun ρ _ hq => ?_
  obtain ⟨n, c, x2, x3, xs, rfl, hn⟩ : prZ0 ρ := hq
  have c0 : decide ((20 : Int) ≤ (n : Int)) = false := decide_eq_false (by omega)
  simp only [rt73_0, VT.ok, Nd.holds, X.outs, X.ds, X.d, Op2.ev, List.cons_append, List.nil_append, List.getD_cons_zero, List.getD_cons_succ, D.int_i, D.bool_b, Bool.false_eq_true, if_false, takeD1_0, c0]
  exact round_exit (by omega) rfl
theorem loopM73_2 : LoopMeets Try.prog F (R L73_2.key) L73_2 lb73_2 := by
  refine loop_meets (pre := R) mixed (sgAt_all (P := Try.prog) (pre := R) (Φ := F) (l := sg73) (List.forall_mem_cons.2 ⟨MeetsRow.at (pre := R) (Φ := F) m85, List.forall_mem_cons.2 ⟨MeetsRow.at (pre := R) (Φ := F) m86, (fun _ h => nomatch h)⟩⟩)) (loops_n 0 lk73_2 fun k hk => by omega) L73_2 (fun ρ => 0) le73_2 fun ρ _ hq => ?_
  exact (show False from hq).elim
theorem loopM73_1 : LoopMeets Try.prog F (R L73_1.key) L73_1 lb73_1 := by
  refine loop_meets (pre := R) mixed (sgAt_all (P := Try.prog) (pre := R) (Φ := F) (l := sg73) (List.forall_mem_cons.2 ⟨MeetsRow.at (pre := R) (Φ := F) m85, List.forall_mem_cons.2 ⟨MeetsRow.at (pre := R) (Φ := F) m86, (fun _ h => nomatch h)⟩⟩)) (loops_n 1 lk73_1 fun k hk => match k, hk with | 0, _ => by rw [li73_1_0]; exact loop_this lf73_2 loopM73_2) L73_1 (fun ρ => 0) le73_1 fun ρ _ hq => ?_
  obtain ⟨n, c, xs, rfl, hn⟩ : prZ1 ρ := hq
  have c0 : decide ((20 : Int) < (n : Int)) = false := decide_eq_false (by omega)
  simp only [rt73_1, VT.ok, Nd.holds, X.outs, X.ds, X.d, Op2.ev, List.cons_append, List.nil_append, List.getD_cons_zero, List.getD_cons_succ, D.int_i, D.bool_b, Bool.false_eq_true, if_false, c0]
  exact round_exit (by omega) rfl
theorem m73 : MeetsRow Try.prog 73 S73 (qRow S73) (R 73) (F 73) := by
  refine meets_row (pre := R) (Φ := F) mixed (sgAt_all (P := Try.prog) (pre := R) (Φ := F) (l := sg73) (List.forall_mem_cons.2 ⟨MeetsRow.at (pre := R) (Φ := F) m85, List.forall_mem_cons.2 ⟨MeetsRow.at (pre := R) (Φ := F) m86, (fun _ h => nomatch h)⟩⟩)) Try.func73 b73 n73 (loops_n 3 k73 fun k hk => match k, hk with | 0, _ => loop_this lf73_0 loopM73_0 | 1, _ => loop_this lf73_1 loopM73_1 | 2, _ => loop_this lf73_2 loopM73_2) e73 rfl rfl rfl fun ds hf hq => ?_
  obtain ⟨g, l, rfl, hs⟩ : prStb 52 ctsG ds := hq
  have hn : l.length < 20 := by have := hs.2.1; omega
  have hz0 : ∀ x2 x3 x4 x5 x6 : D, lpZ0 [x2, x3, x4, x5, x6, .l (l.map encI)] = [.i 0, x5, x6, .l (l.map encI)] := fun _ _ _ _ _ => rfl
  have hz1 : ∀ (x2 x3 x4 : D) (xs : List (List D)), lpZ1 [x2, x3, x4, .l xs] = [.i 0, x4, .l xs] := fun _ _ _ _ => rfl
  have hval : stbD [.l (l.map encI), .i (l.length : Int), cloG 52 ctsG g] = [.l ((isrt (kD g) l.length 1 l).map encI)] := by
    show [srt1 (cloG 52 ctsG g) (l.map encI)] = _
    rw [srt_of]
  have hins : insD [.l (l.map encI), .i 0, .i (l.length : Int), cloG 52 ctsG g] = [.l ((isrt (kD g) l.length 1 l).map encI)] := by
    show [srt1 (cloG 52 ctsG g) (l.map encI)] = _
    rw [srt_of]
  have hp0 : prZ0 [.i (l.length : Int), cloG 52 ctsG g, .i 20, .i 0, .i 20, .l (l.map encI)] := ⟨l.length, _, _, _, _, rfl, hn⟩
  have hp1 : prZ1 [.i (l.length : Int), cloG 52 ctsG g, .i 20, .l ((isrt (kD g) l.length 1 l).map encI)] := ⟨l.length, _, _, rfl, hn⟩
  have hpi : prIns 52 ctsG [.l (l.map encI), .i 0, .i (l.length : Int), cloG 52 ctsG g] := ⟨g, l, rfl, hs⟩
  rw [show F 73 = stbD from rfl, hval]
  simp only [vt73, VT.ok, Nd.holds, X.outs, X.ds, X.d, takeD_zero, takeD_cons, List.cons_append, List.nil_append, List.getD_cons_zero, List.getD_cons_succ, D.bool_b, and_true, F85, R85, F17300, R17300, F17302, R17302, hz0, hins, hz1]
  exact ⟨fun _ => hp0, fun _ => hpi, fun _ => hp1⟩
theorem m51 : MeetsRow Try.prog 51 S51 (qRow S51) (R 51) (F 51) := by
  refine meets_row (pre := R) (Φ := F) mixed (sgAt_all (P := Try.prog) (pre := R) (Φ := F) (l := sg51) (List.forall_mem_cons.2 ⟨MeetsRow.at (pre := R) (Φ := F) m73, (fun _ h => nomatch h)⟩)) Try.func51 b51 n51 (loops_n 0 k51 fun k hk => by omega) e51 rfl rfl rfl fun ds hf hq => ?_
  obtain ⟨g, l, rfl, hs⟩ : prSt 52 ctsG ds := hq
  have hpi : prStb 52 ctsG [.l (l.map encI), .i (l.length : Int), cloG 52 ctsG g] := ⟨g, l, rfl, hs⟩
  simp only [vt51, VT.ok, Nd.holds, X.outs, X.ds, X.d, Op1.ev, List.cons_append, List.nil_append, List.getD_cons_zero, List.getD_cons_succ, D.bool_b, D.lst_l, List.length_map, takeD1_0, F73, R73, F51]
  exact ⟨fun _ => hpi, rfl⟩
theorem idI_snoc (j : Nat) : (idI j).map encI ++ [[.i (j : Int)]] = (idI (j + 1)).map encI := by
  simp [idI, List.range_succ, encI]
theorem loopM31_0 : LoopMeets Try.prog F (R L31_0.key) L31_0 lb31_0 := by
  refine loop_meets (pre := R) mixed (sgAt_all (P := Try.prog) (pre := R) (Φ := F) (l := sg31) (List.forall_mem_cons.2 ⟨MeetsRow.at (pre := R) (Φ := F) m51, (fun _ h => nomatch h)⟩)) (loops_n 0 lk31_0 fun k hk => by omega) L31_0 (fun ρ => ((ρ.getD 0 default).int - (ρ.getD 1 default).int).toNat) le31_0 fun ρ _ hq => ?_
  obtain ⟨n, j, rfl, hj, hn⟩ : prId ρ := hq
  by_cases hlt : j < n
  · have c0 : decide ((j : Int) < (n : Int)) = true := decide_eq_true (by omega)
    have c1 : IntKind.i64.wrap ((j : Int) + 1) = ((j + 1 : Nat) : Int) := nat_wrap (by omega)
    have c2 : decide ((((idI (j + 1)).length : Nat) : Int) ≤ 17592186044416) = true := decide_eq_true (by rw [idI_len]; omega)
    simp only [rt31_0, VT.ok, Nd.holds, X.ds, X.d, Op1.ev, Op2.ev, List.getD_cons_zero, List.getD_cons_succ, D.int_i, D.bool_b, D.lst_l, List.length_map, if_true, implies_true, true_and, c0, c1, idI_snoc, c2]
    refine round_next ⟨⟨n, j + 1, rfl, by omega, hn⟩, ?_, rfl⟩
    show ((n : Int) - ((j + 1 : Nat) : Int)).toNat < ((n : Int) - (j : Int)).toNat
    omega
  · have hj' : j = n := by omega
    subst hj'
    have c0 : decide ((j : Int) < (j : Int)) = false := decide_eq_false (by omega)
    simp only [rt31_0, VT.ok, Nd.holds, X.ds, X.d, Op1.ev, Op2.ev, List.getD_cons_zero, List.getD_cons_succ, D.int_i, D.bool_b, D.lst_l, Bool.false_eq_true, if_false, c0]
    exact round_exit (by omega) rfl
theorem m31 : Meets Try.prog 31 S31 (R 31) (F 31) := by
  refine meets_of_vt (pre := R) (Φ := F) mixed (sgAt_all (P := Try.prog) (pre := R) (Φ := F) (l := sg31) (List.forall_mem_cons.2 ⟨MeetsRow.at (pre := R) (Φ := F) m51, (fun _ h => nomatch h)⟩)) Try.func31 b31 n31 (loops_n 1 k31 fun k hk => match k, hk with | 0, _ => loop_this lf31_0 loopM31_0) e31 fun ds hf hq => ?_
  obtain ⟨g, ds', rfl, h5, _⟩ := fitsG hf.flat
  have e0 := fits0 h5
  subst e0
  have hv : validE g = 0 := hq
  have hC := (valid_parts hv).1.2.2
  have hval : grpsD [.s g.nm, .b g.dr, .l g.N, .l g.E, .l g.C] = [.l ((ordD g).map encI)] := rfl
  have hp : prId [.i (g.C.length : Int), .i 0, .l []] := ⟨g.C.length, 0, rfl, by omega, hC⟩
  have hlp : lpId [.i (g.C.length : Int), .i 0, .l []] = [.i 0, .i (g.C.length : Int), .l ((idI g.C.length).map encI)] := rfl
  have hclo : D.c 52 [.pt ctsG] [.p [.s g.nm, .b g.dr, .l g.N, .l g.E, .l g.C]] = cloG 52 ctsG g := rfl
  have hps : prSt 52 ctsG [.l ((idI g.C.length).map encI), cloG 52 ctsG g] := ⟨g, idI g.C.length, rfl, hv, by rw [idI_len]; exact hC, fun c hc => by
    unfold idI at hc
    rw [List.mem_map] at hc
    obtain ⟨i, hi, rfl⟩ := hc
    rw [List.mem_range] at hi
    omega⟩
  have hsr : srtD [.l ((idI g.C.length).map encI), cloG 52 ctsG g] = [.l ((ordD g).map encI)] := by
    show [srt1 (cloG 52 ctsG g) ((idI g.C.length).map encI)] = _
    rw [srt_of, idI_len, srt_ord hv]
  rw [show F 31 = grpsD from rfl, show (D.s g.nm :: .b g.dr :: .l g.N :: .l g.E :: .l g.C :: []) = [.s g.nm, .b g.dr, .l g.N, .l g.E, .l g.C] from rfl, hval]
  simp only [vt31, VT.ok, Nd.holds, X.outs, X.ds, X.d, Op1.ev, takeD_zero, takeD_cons, List.cons_append, List.nil_append, List.getD_cons_zero, List.getD_cons_succ, D.bool_b, D.lst_l, takeD1_0, F51, R51, F13100, R13100, hlp]
  refine ⟨fun _ => hp, ?_⟩
  show (True → prSt 52 ctsG [.l ((idI g.C.length).map encI), cloG 52 ctsG g]) ∧ srtD [.l ((idI g.C.length).map encI), cloG 52 ctsG g] = _
  exact ⟨fun _ => hps, hsr⟩
end Go.Proofs.Ythpppbfiiphgoaa.rv
namespace Go.RV
theorem lItem_len (N : List (List D)) (k : Nat) (b : List (List D)) (i : Nat) : (lItem N k b i).length ≤ 1 := by unfold lItem; split <;> simp
theorem mItem_len (E b : List (List D)) (i : Nat) : (mItem E b i).length ≤ 1 := by unfold mItem; split <;> simp
theorem dItem_len (g : Gd) (c : List (List D)) (d : Int) (i : Nat) : (dItem g c d i).length ≤ 1 := by unfold dItem; split <;> simp
end Go.RV
namespace Go.Proofs.Ythpppbfiiphgoaa.rv
set_option maxRecDepth 10000
open Go.RV
theorem loopM15_0 : LoopMeets Try.prog F (R L15_0.key) L15_0 lb15_0 := by
  refine loop_meets (pre := R) mixed (sgAt_all (P := Try.prog) (pre := R) (Φ := F) (l := sg15) (List.forall_mem_cons.2 ⟨Meets.at (pre := R) (Φ := F) m30, List.forall_mem_cons.2 ⟨Meets.at (pre := R) (Φ := F) m31, List.forall_mem_cons.2 ⟨Meets.at (pre := R) (Φ := F) m32, List.forall_mem_cons.2 ⟨Meets.at (pre := R) (Φ := F) m13, List.forall_mem_cons.2 ⟨Meets.at (pre := R) (Φ := F) m11, (fun _ h => nomatch h)⟩⟩⟩⟩⟩)) (loops_n 0 lk15_0 fun k hk => by omega) L15_0 (fun ρ => ((ρ.getD 1 default).int - (ρ.getD 2 default).int).toNat) le15_0 fun ρ _ hq => ?_
  obtain ⟨x3, x5, x6, x7, x8, x9, x10, x11, x12, x13, x14, x15, x16, x17, o, c, acc, j, rfl, hj, hm, ha, ho⟩ : prB0 ρ := hq
  by_cases hlt : j < o.length
  · have hn : ∀ acc' : List (List D), acc ++ [gItem c (cI (el o j) 0)] = acc' → RoundOk F (R L15_0.key) (fun ρ => ((ρ.getD 1 default).int - (ρ.getD 2 default).int).toNat) L15_0 [.l o, .i (o.length : Int), .i (j : Int), x3, .l c, x5, x6, x7, x8, x9, x10, x11, x12, x13, x14, x15, x16, x17, .l acc] [.i (-1), .i ((j + 1 : Nat) : Int), .l acc'] := fun acc' h => by
      subst h
      refine round_next ⟨⟨x3, x5, x6, x7, x8, x9, x10, x11, x12, x13, x14, x15, x16, x17, o, c, acc ++ [gItem c (cI (el o j) 0)], j + 1, rfl, by omega, hm, by rw [List.length_append]; simp only [List.length_cons, List.length_nil]; omega, ho⟩, ?_, ?_⟩
      · show ((o.length : Int) - ((j + 1 : Nat) : Int)).toNat < ((o.length : Int) - (j : Int)).toNat
        omega
      · show lpG (fun i => [gItem c (cI (el o i) 0)]) o.length (j + 1) (acc ++ [gItem c (cI (el o j) 0)]) = lpG (fun i => [gItem c (cI (el o i) 0)]) o.length j acc
        unfold lpG
        rw [coll_next (f := (fun i => [gItem c (cI (el o i) 0)])) hlt acc]
    have c0 : decide ((j : Int) < (o.length : Int)) = true := decide_eq_true (by omega)
    have c1 : decide ((0 : Int) ≤ (j : Int)) = true := decide_eq_true (by omega)
    have c2 : IntKind.i64.wrap ((j : Int) + 1) = ((j + 1 : Nat) : Int) := nat_wrap (by omega)
    have c4 : ∀ z : List D, decide ((((acc ++ [z]).length : Nat) : Int) ≤ 1599289640401) = true := fun z => decide_eq_true (by rw [List.length_append, List.length_cons, List.length_nil]; omega)
    obtain ⟨e0, e1, e2⟩ := ho j hlt
    have e0' : (o.getD j []).getD 0 default = .i (cI (el o j) 0) := e0
    have hg : gItem c (cI (el o j) 0) = gItem c (cI (el o j) 0) := rfl
    generalize cI (el o j) 0 = i at e0' e1 e2 hn
    have c5 : decide ((0 : Int) ≤ i) = true := decide_eq_true e1
    have c6 : decide (i < (c.length : Int)) = true := decide_eq_true e2
    simp only [rt15_0, VT.ok, Nd.holds, X.ds, X.d, Op1.ev, Op2.ev, List.getD_cons_zero, List.getD_cons_succ, D.int_i, D.bool_b, D.lst_l, Int.toNat_natCast, if_true, implies_true, true_and, c0, c1, c2, c4, e0', c5, c6]
    exact hn _ rfl
  · have hj' : o.length = j := by omega
    subst hj'
    have c0 : decide ((o.length : Int) < (o.length : Int)) = false := decide_eq_false (by omega)
    simp only [rt15_0, VT.ok, Nd.holds, X.ds, X.d, Op1.ev, Op2.ev, List.getD_cons_zero, List.getD_cons_succ, D.int_i, D.bool_b, D.lst_l, Int.toNat_natCast, Bool.false_eq_true, if_false, c0]
    refine round_exit (by omega) ?_
    show lpG (fun i => [gItem c (cI (el o i) 0)]) o.length o.length acc = _
    unfold lpG
    rw [coll_end]
    try rfl
theorem loopM15_1 : LoopMeets Try.prog F (R L15_1.key) L15_1 lb15_1 := by
  refine loop_meets (pre := R) mixed (sgAt_all (P := Try.prog) (pre := R) (Φ := F) (l := sg15) (List.forall_mem_cons.2 ⟨Meets.at (pre := R) (Φ := F) m30, List.forall_mem_cons.2 ⟨Meets.at (pre := R) (Φ := F) m31, List.forall_mem_cons.2 ⟨Meets.at (pre := R) (Φ := F) m32, List.forall_mem_cons.2 ⟨Meets.at (pre := R) (Φ := F) m13, List.forall_mem_cons.2 ⟨Meets.at (pre := R) (Φ := F) m11, (fun _ h => nomatch h)⟩⟩⟩⟩⟩)) (loops_n 0 lk15_1 fun k hk => by omega) L15_1 (fun ρ => ((ρ.getD 0 default).int - (ρ.getD 1 default).int).toNat) le15_1 fun ρ _ hq => ?_
  obtain ⟨x2, x3, x5, x6, x7, x8, x9, x10, x11, x12, x13, x14, x15, x16, n, r, acc, j, rfl, hj, hm, ha, hl, hp⟩ : prB1 ρ := hq
  by_cases hlt : j < n
  · have hn : ∀ acc' : List (List D), acc ++ [rItem r j] = acc' → RoundOk F (R L15_1.key) (fun ρ => ((ρ.getD 0 default).int - (ρ.getD 1 default).int).toNat) L15_1 [.i (n : Int), .i (j : Int), x2, x3, .l r, x5, x6, x7, x8, x9, x10, x11, x12, x13, x14, x15, x16, .l acc] [.i (-1), .i ((j + 1 : Nat) : Int), .l acc'] := fun acc' h => by
      subst h
      refine round_next ⟨⟨x2, x3, x5, x6, x7, x8, x9, x10, x11, x12, x13, x14, x15, x16, n, r, acc ++ [rItem r j], j + 1, rfl, by omega, hm, by rw [List.length_append]; simp only [List.length_cons, List.length_nil]; omega, hl, hp⟩, ?_, ?_⟩
      · show ((n : Int) - ((j + 1 : Nat) : Int)).toNat < ((n : Int) - (j : Int)).toNat
        omega
      · show lpG (fun i => [rItem r i]) n (j + 1) (acc ++ [rItem r j]) = lpG (fun i => [rItem r i]) n j acc
        unfold lpG
        rw [coll_next (f := (fun i => [rItem r i])) hlt acc]
    have c0 : decide ((j : Int) < (n : Int)) = true := decide_eq_true (by omega)
    have c1 : decide ((0 : Int) ≤ (j : Int)) = true := decide_eq_true (by omega)
    have c2 : IntKind.i64.wrap ((j : Int) + 1) = ((j + 1 : Nat) : Int) := nat_wrap (by omega)
    have c4 : ∀ z : List D, decide ((((acc ++ [z]).length : Nat) : Int) ≤ 1599289640401) = true := fun z => decide_eq_true (by rw [List.length_append, List.length_cons, List.length_nil]; omega)
    obtain ⟨e0, e1⟩ := hp j (by omega)
    have e0' : (r.getD j []).getD 0 default = .l (cL (el r j) 0) := e0
    have hr : rItem r j = [.i 3, .i (j : Int), .i 0, .i 0, .i 0, .i 0, .l (cL (el r j) 0), .s ⟨#[]⟩] := rfl
    rw [hr] at hn
    generalize cL (el r j) 0 = ps at e0' e1 hn
    have c5 : decide ((j : Int) < (r.length : Int)) = true := decide_eq_true (by omega)
    have hcl : ∀ xs, cloneD [.l xs] = [.l xs] := fun _ => rfl
    simp only [rt15_1, VT.ok, Nd.holds, X.outs, X.ds, X.d, Op1.ev, Op2.ev, takeD_zero, takeD_cons, List.cons_append, List.nil_append, List.getD_cons_zero, List.getD_cons_succ, D.int_i, D.bool_b, D.lst_l, Int.toNat_natCast, if_true, implies_true, true_and, F32, R32, c0, c1, c2, c4, c5, e0', hcl]
    exact ⟨fun _ => ⟨ps, rfl, e1⟩, hn _ rfl⟩
  · have hj' : n = j := by omega
    subst hj'
    have c0 : decide ((n : Int) < (n : Int)) = false := decide_eq_false (by omega)
    simp only [rt15_1, VT.ok, Nd.holds, X.outs, X.ds, X.d, Op1.ev, Op2.ev, List.cons_append, List.nil_append, List.getD_cons_zero, List.getD_cons_succ, D.int_i, D.bool_b, D.lst_l, Int.toNat_natCast, Bool.false_eq_true, if_false, takeD1_0, c0]
    refine round_exit (by omega) ?_
    show lpG (fun i => [rItem r i]) n n acc = _
    unfold lpG
    rw [coll_end]
    try rfl
theorem loopM15_2 : LoopMeets Try.prog F (R L15_2.key) L15_2 lb15_2 := by
  refine loop_meets (pre := R) mixed (sgAt_all (P := Try.prog) (pre := R) (Φ := F) (l := sg15) (List.forall_mem_cons.2 ⟨Meets.at (pre := R) (Φ := F) m30, List.forall_mem_cons.2 ⟨Meets.at (pre := R) (Φ := F) m31, List.forall_mem_cons.2 ⟨Meets.at (pre := R) (Φ := F) m32, List.forall_mem_cons.2 ⟨Meets.at (pre := R) (Φ := F) m13, List.forall_mem_cons.2 ⟨Meets.at (pre := R) (Φ := F) m11, (fun _ h => nomatch h)⟩⟩⟩⟩⟩)) (loops_n 0 lk15_2 fun k hk => by omega) L15_2 (fun ρ => ((ρ.getD 0 default).int - (ρ.getD 1 default).int).toNat) le15_2 fun ρ _ hq => ?_
  obtain ⟨x3, x4, x5, x6, x7, x8, x9, x10, x11, x12, x13, x14, x15, x16, n, b, acc, j, rfl, hj, hm, ha, hl⟩ : prB2 ρ := hq
  by_cases hlt : j < n
  · have hn : ∀ acc' : List (List D), acc ++ [nItem b j] = acc' → RoundOk F (R L15_2.key) (fun ρ => ((ρ.getD 0 default).int - (ρ.getD 1 default).int).toNat) L15_2 [.i (n : Int), .i (j : Int), .l b, x3, x4, x5, x6, x7, x8, x9, x10, x11, x12, x13, x14, x15, x16, .l acc] [.i (-1), .i ((j + 1 : Nat) : Int), .l acc'] := fun acc' h => by
      subst h
      refine round_next ⟨⟨x3, x4, x5, x6, x7, x8, x9, x10, x11, x12, x13, x14, x15, x16, n, b, acc ++ [nItem b j], j + 1, rfl, by omega, hm, by rw [List.length_append]; simp only [List.length_cons, List.length_nil]; omega, hl⟩, ?_, ?_⟩
      · show ((n : Int) - ((j + 1 : Nat) : Int)).toNat < ((n : Int) - (j : Int)).toNat
        omega
      · show lpG (fun i => [nItem b i]) n (j + 1) (acc ++ [nItem b j]) = lpG (fun i => [nItem b i]) n j acc
        unfold lpG
        rw [coll_next (f := (fun i => [nItem b i])) hlt acc]
    have c0 : decide ((j : Int) < (n : Int)) = true := decide_eq_true (by omega)
    have c1 : decide ((0 : Int) ≤ (j : Int)) = true := decide_eq_true (by omega)
    have c2 : IntKind.i64.wrap ((j : Int) + 1) = ((j + 1 : Nat) : Int) := nat_wrap (by omega)
    have c4 : ∀ z : List D, decide ((((acc ++ [z]).length : Nat) : Int) ≤ 1599289640401) = true := fun z => decide_eq_true (by rw [List.length_append, List.length_cons, List.length_nil]; omega)
    have c5 : decide ((j : Int) < (b.length : Int)) = true := decide_eq_true (by omega)
    simp only [rt15_2, VT.ok, Nd.holds, X.ds, X.d, Op1.ev, Op2.ev, List.getD_cons_zero, List.getD_cons_succ, D.int_i, D.bool_b, D.lst_l, Int.toNat_natCast, if_true, implies_true, true_and, c0, c1, c2, c4, c5]
    exact hn _ rfl
  · have hj' : n = j := by omega
    subst hj'
    have c0 : decide ((n : Int) < (n : Int)) = false := decide_eq_false (by omega)
    simp only [rt15_2, VT.ok, Nd.holds, X.ds, X.d, Op1.ev, Op2.ev, List.getD_cons_zero, List.getD_cons_succ, D.int_i, D.bool_b, D.lst_l, Int.toNat_natCast, Bool.false_eq_true, if_false, c0]
    refine round_exit (by omega) ?_
    show lpG (fun i => [nItem b i]) n n acc = _
    unfold lpG
    rw [coll_end]
    try rfl
theorem loopM15_3 : LoopMeets Try.prog F (R L15_3.key) L15_3 lb15_3 := by
  refine loop_meets (pre := R) mixed (sgAt_all (P := Try.prog) (pre := R) (Φ := F) (l := sg15) (List.forall_mem_cons.2 ⟨Meets.at (pre := R) (Φ := F) m30, List.forall_mem_cons.2 ⟨Meets.at (pre := R) (Φ := F) m31, List.forall_mem_cons.2 ⟨Meets.at (pre := R) (Φ := F) m32, List.forall_mem_cons.2 ⟨Meets.at (pre := R) (Φ := F) m13, List.forall_mem_cons.2 ⟨Meets.at (pre := R) (Φ := F) m11, (fun _ h => nomatch h)⟩⟩⟩⟩⟩)) (loops_n 0 lk15_3 fun k hk => by omega) L15_3 (fun ρ => ((ρ.getD 1 default).int - (ρ.getD 2 default).int).toNat) le15_3 fun ρ _ hq => ?_
  obtain ⟨x4, x5, x6, x7, x8, x9, x10, x11, x12, x13, x14, x15, x16, x17, N, b, acc, j, rfl, hj, hm, ha, hl⟩ : prB3 ρ := hq
  by_cases hlt : j < N.length
  · have hn : ∀ acc' : List (List D), acc ++ (lItem N 1 b) j = acc' → RoundOk F (R L15_3.key) (fun ρ => ((ρ.getD 1 default).int - (ρ.getD 2 default).int).toNat) L15_3 [.l N, .i (N.length : Int), .i (j : Int), .l b, x4, x5, x6, x7, x8, x9, x10, x11, x12, x13, x14, x15, x16, x17, .l acc] [.i (-1), .i ((j + 1 : Nat) : Int), .l acc'] := fun acc' h => by
      subst h
      refine round_next ⟨⟨x4, x5, x6, x7, x8, x9, x10, x11, x12, x13, x14, x15, x16, x17, N, b, acc ++ (lItem N 1 b) j, j + 1, rfl, by omega, hm, by rw [List.length_append]; have := lItem_len N 1 b j; omega, hl⟩, ?_, ?_⟩
      · show ((N.length : Int) - ((j + 1 : Nat) : Int)).toNat < ((N.length : Int) - (j : Int)).toNat
        omega
      · show lpG (lItem N 1 b) N.length (j + 1) (acc ++ (lItem N 1 b) j) = lpG (lItem N 1 b) N.length j acc
        unfold lpG
        rw [coll_next (f := (lItem N 1 b)) hlt acc]
    have c0 : decide ((j : Int) < (N.length : Int)) = true := decide_eq_true (by omega)
    have c1 : decide ((0 : Int) ≤ (j : Int)) = true := decide_eq_true (by omega)
    have c2 : IntKind.i64.wrap ((j : Int) + 1) = ((j + 1 : Nat) : Int) := nat_wrap (by omega)
    have c4 : ∀ z : List D, decide ((((acc ++ [z]).length : Nat) : Int) ≤ 1599289640401) = true := fun z => decide_eq_true (by rw [List.length_append, List.length_cons, List.length_nil]; omega)
    have c5 : decide ((j : Int) < (b.length : Int)) = true := decide_eq_true (by omega)
    have hT : lItem N 1 b j = if (!(cS (el N j) 1 == ⟨#[]⟩)) = true then [tItem b j ((el N j).getD 1 default)] else [] := rfl
    cases hb : (!(cS (el N j) 1 == ⟨#[]⟩))
    · have hb' : (!(((N.getD j []).getD 1 default).str == ⟨#[]⟩)) = false := hb
      rw [hb, if_neg (by decide)] at hT
      simp only [rt15_3, VT.ok, Nd.holds, X.ds, X.d, Op1.ev, Op2.ev, List.getD_cons_zero, List.getD_cons_succ, D.int_i, D.bool_b, D.lst_l, D.str_s, Int.toNat_natCast, if_true, Bool.false_eq_true, if_false, implies_true, true_and, c0, c1, c2, c4, c5, hb']
      exact hn acc (by rw [hT, List.append_nil])
    · have hb' : (!(((N.getD j []).getD 1 default).str == ⟨#[]⟩)) = true := hb
      rw [hb, if_pos rfl] at hT
      simp only [rt15_3, VT.ok, Nd.holds, X.ds, X.d, Op1.ev, Op2.ev, List.getD_cons_zero, List.getD_cons_succ, D.int_i, D.bool_b, D.lst_l, D.str_s, Int.toNat_natCast, if_true, implies_true, true_and, c0, c1, c2, c4, c5, hb']
      exact hn _ (by rw [hT]; rfl)
  · have hj' : N.length = j := by omega
    subst hj'
    have c0 : decide ((N.length : Int) < (N.length : Int)) = false := decide_eq_false (by omega)
    simp only [rt15_3, VT.ok, Nd.holds, X.ds, X.d, Op1.ev, Op2.ev, List.getD_cons_zero, List.getD_cons_succ, D.int_i, D.bool_b, D.lst_l, D.str_s, Int.toNat_natCast, Bool.false_eq_true, if_false, c0]
    refine round_exit (by omega) ?_
    show lpG (lItem N 1 b) N.length N.length acc = _
    unfold lpG
    rw [coll_end]
    try rfl
theorem loopM15_4 : LoopMeets Try.prog F (R L15_4.key) L15_4 lb15_4 := by
  refine loop_meets (pre := R) mixed (sgAt_all (P := Try.prog) (pre := R) (Φ := F) (l := sg15) (List.forall_mem_cons.2 ⟨Meets.at (pre := R) (Φ := F) m30, List.forall_mem_cons.2 ⟨Meets.at (pre := R) (Φ := F) m31, List.forall_mem_cons.2 ⟨Meets.at (pre := R) (Φ := F) m32, List.forall_mem_cons.2 ⟨Meets.at (pre := R) (Φ := F) m13, List.forall_mem_cons.2 ⟨Meets.at (pre := R) (Φ := F) m11, (fun _ h => nomatch h)⟩⟩⟩⟩⟩)) (loops_n 0 lk15_4 fun k hk => by omega) L15_4 (fun ρ => ((ρ.getD 1 default).int - (ρ.getD 2 default).int).toNat) le15_4 fun ρ _ hq => ?_
  obtain ⟨x3, x4, x5, x7, x8, x9, x10, x11, x12, x13, x14, x15, x16, x17, N, b, acc, j, rfl, hj, hm, ha, hl⟩ : prB4 ρ := hq
  by_cases hlt : j < N.length
  · have hn : ∀ acc' : List (List D), acc ++ (mItem N b) j = acc' → RoundOk F (R L15_4.key) (fun ρ => ((ρ.getD 1 default).int - (ρ.getD 2 default).int).toNat) L15_4 [.l N, .i (N.length : Int), .i (j : Int), x3, x4, x5, .l b, x7, x8, x9, x10, x11, x12, x13, x14, x15, x16, x17, .l acc] [.i (-1), .i ((j + 1 : Nat) : Int), .l acc'] := fun acc' h => by
      subst h
      refine round_next ⟨⟨x3, x4, x5, x7, x8, x9, x10, x11, x12, x13, x14, x15, x16, x17, N, b, acc ++ (mItem N b) j, j + 1, rfl, by omega, hm, by rw [List.length_append]; have := mItem_len N b j; omega, hl⟩, ?_, ?_⟩
      · show ((N.length : Int) - ((j + 1 : Nat) : Int)).toNat < ((N.length : Int) - (j : Int)).toNat
        omega
      · show lpG (mItem N b) N.length (j + 1) (acc ++ (mItem N b) j) = lpG (mItem N b) N.length j acc
        unfold lpG
        rw [coll_next (f := (mItem N b)) hlt acc]
    have c0 : decide ((j : Int) < (N.length : Int)) = true := decide_eq_true (by omega)
    have c1 : decide ((0 : Int) ≤ (j : Int)) = true := decide_eq_true (by omega)
    have c2 : IntKind.i64.wrap ((j : Int) + 1) = ((j + 1 : Nat) : Int) := nat_wrap (by omega)
    have c4 : ∀ z : List D, decide ((((acc ++ [z]).length : Nat) : Int) ≤ 1599289640401) = true := fun z => decide_eq_true (by rw [List.length_append, List.length_cons, List.length_nil]; omega)
    have c5 : decide ((j : Int) < (b.length : Int)) = true := decide_eq_true (by omega)
    have hT : mItem N b j = if (!(cS (el N j) 4 == ⟨#[]⟩) && !sameQ (rQ (el b j) 0) z4) = true then [tItem b j ((el N j).getD 4 default)] else [] := rfl
    cases hb : (!(cS (el N j) 4 == ⟨#[]⟩) && !sameQ (rQ (el b j) 0) z4)
    · have hb' : (!(((N.getD j []).getD 4 default).str == ⟨#[]⟩) && !((((b.getD j []).getD 0 default).int == 0) && ((((b.getD j []).getD 1 default).int == 0) && ((((b.getD j []).getD 2 default).int == 0) && (((b.getD j []).getD 3 default).int == 0))))) = false := hb
      rw [hb, if_neg (by decide)] at hT
      simp only [rt15_4, VT.ok, Nd.holds, X.ds, X.d, Op1.ev, Op2.ev, List.getD_cons_zero, List.getD_cons_succ, D.int_i, D.bool_b, D.lst_l, D.str_s, ite_b, ite_and, Int.toNat_natCast, if_true, Bool.false_eq_true, if_false, implies_true, true_and, c0, c1, c2, c4, c5, hb']
      exact hn acc (by rw [hT, List.append_nil])
    · have hb' : (!(((N.getD j []).getD 4 default).str == ⟨#[]⟩) && !((((b.getD j []).getD 0 default).int == 0) && ((((b.getD j []).getD 1 default).int == 0) && ((((b.getD j []).getD 2 default).int == 0) && (((b.getD j []).getD 3 default).int == 0))))) = true := hb
      rw [hb, if_pos rfl] at hT
      simp only [rt15_4, VT.ok, Nd.holds, X.ds, X.d, Op1.ev, Op2.ev, List.getD_cons_zero, List.getD_cons_succ, D.int_i, D.bool_b, D.lst_l, D.str_s, ite_b, ite_and, Int.toNat_natCast, if_true, implies_true, true_and, c0, c1, c2, c4, c5, hb']
      exact hn _ (by rw [hT]; rfl)
  · have hj' : N.length = j := by omega
    subst hj'
    have c0 : decide ((N.length : Int) < (N.length : Int)) = false := decide_eq_false (by omega)
    simp only [rt15_4, VT.ok, Nd.holds, X.ds, X.d, Op1.ev, Op2.ev, List.getD_cons_zero, List.getD_cons_succ, D.int_i, D.bool_b, D.lst_l, D.str_s, ite_b, ite_and, Int.toNat_natCast, Bool.false_eq_true, if_false, c0]
    refine round_exit (by omega) ?_
    show lpG (mItem N b) N.length N.length acc = _
    unfold lpG
    rw [coll_end]
    try rfl
theorem loopM16_1 : LoopMeets Try.prog F (R L16_1.key) L16_1 lb16_1 := by
  refine loop_meets (pre := R) mixed (sgAt_all (P := Try.prog) (pre := R) (Φ := F) (l := sg16) (List.forall_mem_cons.2 ⟨Meets.at (pre := R) (Φ := F) m20, List.forall_mem_cons.2 ⟨Meets.at (pre := R) (Φ := F) m33, List.forall_mem_cons.2 ⟨Meets.at (pre := R) (Φ := F) m14, List.forall_mem_cons.2 ⟨Meets.at (pre := R) (Φ := F) m12, (fun _ h => nomatch h)⟩⟩⟩⟩)) (loops_n 0 lk16_1 fun k hk => by omega) L16_1 (fun ρ => (((ρ.getD 6 default).lst.length : Int) - (ρ.getD 1 default).int).toNat) le16_1 fun ρ _ hq => ?_
  obtain ⟨x7, x9, x10, x11, x12, x13, x14, x15, x16, x17, x18, x19, x20, x21, g, d, c, acc, j, rfl, hj, hm, ha, hd6, hl⟩ : prC1 ρ := hq
  by_cases hlt : j < g.C.length
  · have hn : ∀ acc' : List (List D), acc ++ (dItem g c d) j = acc' → RoundOk F (R L16_1.key) (fun ρ => (((ρ.getD 6 default).lst.length : Int) - (ρ.getD 1 default).int).toNat) L16_1 [.i d, .i (j : Int), .s g.nm, .b g.dr, .l g.N, .l g.E, .l g.C, x7, .l c, x9, x10, x11, x12, x13, x14, x15, x16, x17, x18, x19, x20, x21, .l acc] [.i (-1), .i ((j + 1 : Nat) : Int), .l acc'] := fun acc' h => by
      subst h
      refine round_next ⟨⟨x7, x9, x10, x11, x12, x13, x14, x15, x16, x17, x18, x19, x20, x21, g, d, c, acc ++ (dItem g c d) j, j + 1, rfl, by omega, hm, by rw [List.length_append]; have := dItem_len g c d j; omega, hd6, hl⟩, ?_, ?_⟩
      · show ((g.C.length : Int) - ((j + 1 : Nat) : Int)).toNat < ((g.C.length : Int) - (j : Int)).toNat
        omega
      · show lpG (dItem g c d) g.C.length (j + 1) (acc ++ (dItem g c d) j) = lpG (dItem g c d) g.C.length j acc
        unfold lpG
        rw [coll_next (f := (dItem g c d)) hlt acc]
    have c0 : decide ((j : Int) < (g.C.length : Int)) = true := decide_eq_true (by omega)
    have c1 : decide ((0 : Int) ≤ (j : Int)) = true := decide_eq_true (by omega)
    have c2 : IntKind.i64.wrap ((j : Int) + 1) = ((j + 1 : Nat) : Int) := nat_wrap (by omega)
    have c4 : ∀ z : List D, decide ((((acc ++ [z]).length : Nat) : Int) ≤ 1599289640401) = true := fun z => decide_eq_true (by rw [List.length_append, List.length_cons, List.length_nil]; omega)
    have c5 : decide ((j : Int) < (c.length : Int)) = true := decide_eq_true (by omega)
    have hd : depED [.s g.nm, .b g.dr, .l g.N, .l g.E, .l g.C, .i (j : Int)] = [.i (depE g (j : Int))] := rfl
    have hT : dItem g c d j = if (depE g (j : Int) == d) = true then [gItem c (j : Int)] else [] := rfl
    cases hb : (depE g (j : Int) == d)
    · rw [hb, if_neg (by decide)] at hT
      simp only [rt16_1, VT.ok, Nd.holds, X.outs, X.ds, X.d, Op1.ev, Op2.ev, takeD_zero, takeD_cons, List.cons_append, List.nil_append, List.getD_cons_zero, List.getD_cons_succ, D.int_i, D.bool_b, D.lst_l, Int.toNat_natCast, if_true, Bool.false_eq_true, if_false, implies_true, true_and, F33, R33, c0, c1, c2, c4, c5, hd, hb]
      exact hn acc (by rw [hT, List.append_nil])
    · rw [hb, if_pos rfl] at hT
      simp only [rt16_1, VT.ok, Nd.holds, X.outs, X.ds, X.d, Op1.ev, Op2.ev, takeD_zero, takeD_cons, List.cons_append, List.nil_append, List.getD_cons_zero, List.getD_cons_succ, D.int_i, D.bool_b, D.lst_l, Int.toNat_natCast, if_true, implies_true, true_and, F33, R33, c0, c1, c2, c4, c5, hd, hb]
      exact hn _ (by rw [hT]; rfl)
  · have hj' : g.C.length = j := by omega
    subst hj'
    have c0 : decide ((g.C.length : Int) < (g.C.length : Int)) = false := decide_eq_false (by omega)
    simp only [rt16_1, VT.ok, Nd.holds, X.outs, X.ds, X.d, Op1.ev, Op2.ev, List.cons_append, List.nil_append, List.getD_cons_zero, List.getD_cons_succ, D.int_i, D.bool_b, D.lst_l, Int.toNat_natCast, Bool.false_eq_true, if_false, takeD1_0, c0]
    refine round_exit (by omega) ?_
    show lpG (dItem g c d) g.C.length g.C.length acc = _
    unfold lpG
    rw [coll_end]
    try rfl
theorem loopM16_0 : LoopMeets Try.prog F (R L16_0.key) L16_0 lb16_0 := by
  refine loop_meets (pre := R) mixed (sgAt_all (P := Try.prog) (pre := R) (Φ := F) (l := sg16) (List.forall_mem_cons.2 ⟨Meets.at (pre := R) (Φ := F) m20, List.forall_mem_cons.2 ⟨Meets.at (pre := R) (Φ := F) m33, List.forall_mem_cons.2 ⟨Meets.at (pre := R) (Φ := F) m14, List.forall_mem_cons.2 ⟨Meets.at (pre := R) (Φ := F) m12, (fun _ h => nomatch h)⟩⟩⟩⟩)) (loops_n 1 lk16_0 fun k hk => match k, hk with | 0, _ => by rw [li16_0_0]; exact loop_this lf16_1 loopM16_1) L16_0 (fun ρ => (7 - (ρ.getD 0 default).int).toNat) le16_0 fun ρ _ hq => ?_
  obtain ⟨x6, x8, x9, x10, x11, x12, x13, x14, x15, x16, x17, x18, x19, x20, g, c, acc, j, rfl, hj, hm, ha, hl⟩ : prC0 ρ := hq
  by_cases hlt : j < 7
  · have hn : ∀ acc' : List (List D), acc ++ (collN (dItem g c (j : Int)) g.C.length 0) = acc' → RoundOk F (R L16_0.key) (fun ρ => (7 - (ρ.getD 0 default).int).toNat) L16_0 [.i (j : Int), .s g.nm, .b g.dr, .l g.N, .l g.E, .l g.C, x6, .l c, x8, x9, x10, x11, x12, x13, x14, x15, x16, x17, x18, x19, x20, .l acc] [.i (-1), .i ((j + 1 : Nat) : Int), .l acc'] := fun acc' h => by
      subst h
      refine round_next ⟨⟨x6, x8, x9, x10, x11, x12, x13, x14, x15, x16, x17, x18, x19, x20, g, c, acc ++ (collN (dItem g c (j : Int)) g.C.length 0), j + 1, rfl, by omega, hm, by rw [List.length_append]; have := coll_len (f := dItem g c (j : Int)) (n := g.C.length) (i := 0) (m := 1) (dItem_len g c (j : Int)); omega, hl⟩, ?_, ?_⟩
      · show ((7 : Int) - ((j + 1 : Nat) : Int)).toNat < ((7 : Int) - (j : Int)).toNat
        omega
      · show lpG (fun d => collN (dItem g c (d : Int)) g.C.length 0) 7 (j + 1) (acc ++ (collN (dItem g c (j : Int)) g.C.length 0)) = lpG (fun d => collN (dItem g c (d : Int)) g.C.length 0) 7 j acc
        unfold lpG
        rw [coll_next (f := (fun d => collN (dItem g c (d : Int)) g.C.length 0)) hlt acc]
    have c0 : decide ((j : Int) ≤ 6) = true := decide_eq_true (by omega)
    have c1 : decide ((0 : Int) ≤ (j : Int)) = true := decide_eq_true (by omega)
    have c2 : IntKind.i64.wrap ((j : Int) + 1) = ((j + 1 : Nat) : Int) := nat_wrap (by omega)
    have c4 : ∀ z : List D, decide ((((acc ++ [z]).length : Nat) : Int) ≤ 1599289640401) = true := fun z => decide_eq_true (by rw [List.length_append, List.length_cons, List.length_nil]; omega)
    have hlp : lpC1 [.i (j : Int), .i 0, .s g.nm, .b g.dr, .l g.N, .l g.E, .l g.C, x6, .l c, x8, x9, x10, x11, x12, x13, x14, x15, x16, x17, x18, x19, x20, .l acc] = [.i 0, .i (g.C.length : Int), .l (acc ++ collN (dItem g c (j : Int)) g.C.length 0)] := rfl
    have hpr : prC1 [.i (j : Int), .i 0, .s g.nm, .b g.dr, .l g.N, .l g.E, .l g.C, x6, .l c, x8, x9, x10, x11, x12, x13, x14, x15, x16, x17, x18, x19, x20, .l acc] := ⟨x6, x8, x9, x10, x11, x12, x13, x14, x15, x16, x17, x18, x19, x20, g, (j : Int), c, acc, 0, rfl, Nat.zero_le _, hm, by omega, by omega, hl⟩
    simp only [rt16_0, VT.ok, Nd.holds, X.outs, X.ds, X.d, Op2.ev, takeD_zero, takeD_cons, List.cons_append, List.nil_append, List.getD_cons_zero, List.getD_cons_succ, D.int_i, D.bool_b, if_true, F11600, R11600, c0, c2, hlp]
    exact ⟨fun _ => hpr, hn _ rfl⟩
  · have hj' : 7 = j := by omega
    subst hj'
    have c0 : decide (((7 : Nat) : Int) ≤ 6) = false := decide_eq_false (by omega)
    simp only [rt16_0, VT.ok, Nd.holds, X.outs, X.ds, X.d, Op2.ev, List.cons_append, List.nil_append, List.getD_cons_zero, List.getD_cons_succ, D.int_i, D.bool_b, Bool.false_eq_true, if_false, c0]
    refine round_exit (by omega) ?_
    show lpG (fun d => collN (dItem g c (d : Int)) g.C.length 0) 7 7 acc = _
    unfold lpG
    rw [coll_end]
theorem loopM16_2 : LoopMeets Try.prog F (R L16_2.key) L16_2 lb16_2 := by
  refine loop_meets (pre := R) mixed (sgAt_all (P := Try.prog) (pre := R) (Φ := F) (l := sg16) (List.forall_mem_cons.2 ⟨Meets.at (pre := R) (Φ := F) m20, List.forall_mem_cons.2 ⟨Meets.at (pre := R) (Φ := F) m33, List.forall_mem_cons.2 ⟨Meets.at (pre := R) (Φ := F) m14, List.forall_mem_cons.2 ⟨Meets.at (pre := R) (Φ := F) m12, (fun _ h => nomatch h)⟩⟩⟩⟩)) (loops_n 0 lk16_2 fun k hk => by omega) L16_2 (fun ρ => (((ρ.getD 4 default).lst.length : Int) - (ρ.getD 0 default).int).toNat) le16_2 fun ρ _ hq => ?_
  obtain ⟨x6, x7, x9, x10, x11, x12, x13, x14, x15, x16, x17, x18, x19, x20, g, r, acc, j, rfl, hj, hm, ha, hl, hp⟩ : prC2 ρ := hq
  by_cases hlt : j < g.E.length
  · have hn : ∀ acc' : List (List D), acc ++ [rItem r j] = acc' → RoundOk F (R L16_2.key) (fun ρ => (((ρ.getD 4 default).lst.length : Int) - (ρ.getD 0 default).int).toNat) L16_2 [.i (j : Int), .s g.nm, .b g.dr, .l g.N, .l g.E, .l g.C, x6, x7, .l r, x9, x10, x11, x12, x13, x14, x15, x16, x17, x18, x19, x20, .l acc] [.i (-1), .i ((j + 1 : Nat) : Int), .l acc'] := fun acc' h => by
      subst h
      refine round_next ⟨⟨x6, x7, x9, x10, x11, x12, x13, x14, x15, x16, x17, x18, x19, x20, g, r, acc ++ [rItem r j], j + 1, rfl, by omega, hm, by rw [List.length_append]; simp only [List.length_cons, List.length_nil]; omega, hl, hp⟩, ?_, ?_⟩
      · show ((g.E.length : Int) - ((j + 1 : Nat) : Int)).toNat < ((g.E.length : Int) - (j : Int)).toNat
        omega
      · show lpG (fun i => [rItem r i]) g.E.length (j + 1) (acc ++ [rItem r j]) = lpG (fun i => [rItem r i]) g.E.length j acc
        unfold lpG
        rw [coll_next (f := (fun i => [rItem r i])) hlt acc]
    have c0 : decide ((j : Int) < (g.E.length : Int)) = true := decide_eq_true (by omega)
    have c1 : decide ((0 : Int) ≤ (j : Int)) = true := decide_eq_true (by omega)
    have c2 : IntKind.i64.wrap ((j : Int) + 1) = ((j + 1 : Nat) : Int) := nat_wrap (by omega)
    have c4 : ∀ z : List D, decide ((((acc ++ [z]).length : Nat) : Int) ≤ 1599289640401) = true := fun z => decide_eq_true (by rw [List.length_append, List.length_cons, List.length_nil]; omega)
    obtain ⟨e0, e1⟩ := hp j (by omega)
    have e0' : (r.getD j []).getD 0 default = .l (cL (el r j) 0) := e0
    have hr : rItem r j = [.i 3, .i (j : Int), .i 0, .i 0, .i 0, .i 0, .l (cL (el r j) 0), .s ⟨#[]⟩] := rfl
    rw [hr] at hn
    generalize cL (el r j) 0 = ps at e0' e1 hn
    have c5 : decide ((j : Int) < (r.length : Int)) = true := decide_eq_true (by omega)
    have c6 : decide ((ps.length : Int) ≤ 8796093022208) = true := decide_eq_true (by omega)
    simp only [rt16_2, VT.ok, Nd.holds, X.ds, X.d, Op1.ev, Op2.ev, List.nil_append, List.getD_cons_zero, List.getD_cons_succ, D.int_i, D.bool_b, D.lst_l, Int.toNat_natCast, if_true, implies_true, true_and, c0, c1, c2, c4, c5, e0', c6]
    exact hn _ rfl
  · have hj' : g.E.length = j := by omega
    subst hj'
    have c0 : decide ((g.E.length : Int) < (g.E.length : Int)) = false := decide_eq_false (by omega)
    simp only [rt16_2, VT.ok, Nd.holds, X.ds, X.d, Op1.ev, Op2.ev, List.nil_append, List.getD_cons_zero, List.getD_cons_succ, D.int_i, D.bool_b, D.lst_l, Int.toNat_natCast, Bool.false_eq_true, if_false, c0]
    refine round_exit (by omega) ?_
    show lpG (fun i => [rItem r i]) g.E.length g.E.length acc = _
    unfold lpG
    rw [coll_end]
    try rfl
theorem loopM16_3 : LoopMeets Try.prog F (R L16_3.key) L16_3 lb16_3 := by
  refine loop_meets (pre := R) mixed (sgAt_all (P := Try.prog) (pre := R) (Φ := F) (l := sg16) (List.forall_mem_cons.2 ⟨Meets.at (pre := R) (Φ := F) m20, List.forall_mem_cons.2 ⟨Meets.at (pre := R) (Φ := F) m33, List.forall_mem_cons.2 ⟨Meets.at (pre := R) (Φ := F) m14, List.forall_mem_cons.2 ⟨Meets.at (pre := R) (Φ := F) m12, (fun _ h => nomatch h)⟩⟩⟩⟩)) (loops_n 0 lk16_3 fun k hk => by omega) L16_3 (fun ρ => (((ρ.getD 3 default).lst.length : Int) - (ρ.getD 0 default).int).toNat) le16_3 fun ρ _ hq => ?_
  obtain ⟨x7, x8, x9, x10, x11, x12, x13, x14, x15, x16, x17, x18, x19, x20, g, b, acc, j, rfl, hj, hm, ha, hl⟩ : prC3 ρ := hq
  by_cases hlt : j < g.N.length
  · have hn : ∀ acc' : List (List D), acc ++ [nItem b j] = acc' → RoundOk F (R L16_3.key) (fun ρ => (((ρ.getD 3 default).lst.length : Int) - (ρ.getD 0 default).int).toNat) L16_3 [.i (j : Int), .s g.nm, .b g.dr, .l g.N, .l g.E, .l g.C, .l b, x7, x8, x9, x10, x11, x12, x13, x14, x15, x16, x17, x18, x19, x20, .l acc] [.i (-1), .i ((j + 1 : Nat) : Int), .l acc'] := fun acc' h => by
      subst h
      refine round_next ⟨⟨x7, x8, x9, x10, x11, x12, x13, x14, x15, x16, x17, x18, x19, x20, g, b, acc ++ [nItem b j], j + 1, rfl, by omega, hm, by rw [List.length_append]; simp only [List.length_cons, List.length_nil]; omega, hl⟩, ?_, ?_⟩
      · show ((g.N.length : Int) - ((j + 1 : Nat) : Int)).toNat < ((g.N.length : Int) - (j : Int)).toNat
        omega
      · show lpG (fun i => [nItem b i]) g.N.length (j + 1) (acc ++ [nItem b j]) = lpG (fun i => [nItem b i]) g.N.length j acc
        unfold lpG
        rw [coll_next (f := (fun i => [nItem b i])) hlt acc]
    have c0 : decide ((j : Int) < (g.N.length : Int)) = true := decide_eq_true (by omega)
    have c1 : decide ((0 : Int) ≤ (j : Int)) = true := decide_eq_true (by omega)
    have c2 : IntKind.i64.wrap ((j : Int) + 1) = ((j + 1 : Nat) : Int) := nat_wrap (by omega)
    have c4 : ∀ z : List D, decide ((((acc ++ [z]).length : Nat) : Int) ≤ 1599289640401) = true := fun z => decide_eq_true (by rw [List.length_append, List.length_cons, List.length_nil]; omega)
    have c5 : decide ((j : Int) < (b.length : Int)) = true := decide_eq_true (by omega)
    simp only [rt16_3, VT.ok, Nd.holds, X.ds, X.d, Op1.ev, Op2.ev, List.getD_cons_zero, List.getD_cons_succ, D.int_i, D.bool_b, D.lst_l, Int.toNat_natCast, if_true, implies_true, true_and, c0, c1, c2, c4, c5]
    exact hn _ rfl
  · have hj' : g.N.length = j := by omega
    subst hj'
    have c0 : decide ((g.N.length : Int) < (g.N.length : Int)) = false := decide_eq_false (by omega)
    simp only [rt16_3, VT.ok, Nd.holds, X.ds, X.d, Op1.ev, Op2.ev, List.getD_cons_zero, List.getD_cons_succ, D.int_i, D.bool_b, D.lst_l, Int.toNat_natCast, Bool.false_eq_true, if_false, c0]
    refine round_exit (by omega) ?_
    show lpG (fun i => [nItem b i]) g.N.length g.N.length acc = _
    unfold lpG
    rw [coll_end]
    try rfl
theorem loopM16_4 : LoopMeets Try.prog F (R L16_4.key) L16_4 lb16_4 := by
  refine loop_meets (pre := R) mixed (sgAt_all (P := Try.prog) (pre := R) (Φ := F) (l := sg16) (List.forall_mem_cons.2 ⟨Meets.at (pre := R) (Φ := F) m20, List.forall_mem_cons.2 ⟨Meets.at (pre := R) (Φ := F) m33, List.forall_mem_cons.2 ⟨Meets.at (pre := R) (Φ := F) m14, List.forall_mem_cons.2 ⟨Meets.at (pre := R) (Φ := F) m12, (fun _ h => nomatch h)⟩⟩⟩⟩)) (loops_n 0 lk16_4 fun k hk => by omega) L16_4 (fun ρ => (((ρ.getD 3 default).lst.length : Int) - (ρ.getD 0 default).int).toNat) le16_4 fun ρ _ hq => ?_
  obtain ⟨x7, x8, x9, x10, x11, x12, x13, x14, x15, x16, x17, x18, x19, x20, g, b, acc, j, rfl, hj, hm, ha, hl⟩ : prC4 ρ := hq
  by_cases hlt : j < g.N.length
  · have hn : ∀ acc' : List (List D), acc ++ (lItem g.N 1 b) j = acc' → RoundOk F (R L16_4.key) (fun ρ => (((ρ.getD 3 default).lst.length : Int) - (ρ.getD 0 default).int).toNat) L16_4 [.i (j : Int), .s g.nm, .b g.dr, .l g.N, .l g.E, .l g.C, .l b, x7, x8, x9, x10, x11, x12, x13, x14, x15, x16, x17, x18, x19, x20, .l acc] [.i (-1), .i ((j + 1 : Nat) : Int), .l acc'] := fun acc' h => by
      subst h
      refine round_next ⟨⟨x7, x8, x9, x10, x11, x12, x13, x14, x15, x16, x17, x18, x19, x20, g, b, acc ++ (lItem g.N 1 b) j, j + 1, rfl, by omega, hm, by rw [List.length_append]; have := lItem_len g.N 1 b j; omega, hl⟩, ?_, ?_⟩
      · show ((g.N.length : Int) - ((j + 1 : Nat) : Int)).toNat < ((g.N.length : Int) - (j : Int)).toNat
        omega
      · show lpG (lItem g.N 1 b) g.N.length (j + 1) (acc ++ (lItem g.N 1 b) j) = lpG (lItem g.N 1 b) g.N.length j acc
        unfold lpG
        rw [coll_next (f := (lItem g.N 1 b)) hlt acc]
    have c0 : decide ((j : Int) < (g.N.length : Int)) = true := decide_eq_true (by omega)
    have c1 : decide ((0 : Int) ≤ (j : Int)) = true := decide_eq_true (by omega)
    have c2 : IntKind.i64.wrap ((j : Int) + 1) = ((j + 1 : Nat) : Int) := nat_wrap (by omega)
    have c4 : ∀ z : List D, decide ((((acc ++ [z]).length : Nat) : Int) ≤ 1599289640401) = true := fun z => decide_eq_true (by rw [List.length_append, List.length_cons, List.length_nil]; omega)
    have c5 : decide ((j : Int) < (b.length : Int)) = true := decide_eq_true (by omega)
    have hT : lItem g.N 1 b j = if (!(cS (el g.N j) 1 == ⟨#[]⟩)) = true then [tItem b j ((el g.N j).getD 1 default)] else [] := rfl
    cases hb : (!(cS (el g.N j) 1 == ⟨#[]⟩))
    · have hb' : (!(((g.N.getD j []).getD 1 default).str == ⟨#[]⟩)) = false := hb
      rw [hb, if_neg (by decide)] at hT
      simp only [rt16_4, VT.ok, Nd.holds, X.ds, X.d, Op1.ev, Op2.ev, List.getD_cons_zero, List.getD_cons_succ, D.int_i, D.bool_b, D.lst_l, D.str_s, Int.toNat_natCast, if_true, Bool.false_eq_true, if_false, implies_true, true_and, c0, c1, c2, c4, c5, hb']
      exact hn acc (by rw [hT, List.append_nil])
    · have hb' : (!(((g.N.getD j []).getD 1 default).str == ⟨#[]⟩)) = true := hb
      rw [hb, if_pos rfl] at hT
      simp only [rt16_4, VT.ok, Nd.holds, X.ds, X.d, Op1.ev, Op2.ev, List.getD_cons_zero, List.getD_cons_succ, D.int_i, D.bool_b, D.lst_l, D.str_s, Int.toNat_natCast, if_true, implies_true, true_and, c0, c1, c2, c4, c5, hb']
      exact hn _ (by rw [hT]; rfl)
  · have hj' : g.N.length = j := by omega
    subst hj'
    have c0 : decide ((g.N.length : Int) < (g.N.length : Int)) = false := decide_eq_false (by omega)
    simp only [rt16_4, VT.ok, Nd.holds, X.ds, X.d, Op1.ev, Op2.ev, List.getD_cons_zero, List.getD_cons_succ, D.int_i, D.bool_b, D.lst_l, D.str_s, Int.toNat_natCast, Bool.false_eq_true, if_false, c0]
    refine round_exit (by omega) ?_
    show lpG (lItem g.N 1 b) g.N.length g.N.length acc = _
    unfold lpG
    rw [coll_end]
    try rfl
theorem loopM16_5 : LoopMeets Try.prog F (R L16_5.key) L16_5 lb16_5 := by
  refine loop_meets (pre := R) mixed (sgAt_all (P := Try.prog) (pre := R) (Φ := F) (l := sg16) (List.forall_mem_cons.2 ⟨Meets.at (pre := R) (Φ := F) m20, List.forall_mem_cons.2 ⟨Meets.at (pre := R) (Φ := F) m33, List.forall_mem_cons.2 ⟨Meets.at (pre := R) (Φ := F) m14, List.forall_mem_cons.2 ⟨Meets.at (pre := R) (Φ := F) m12, (fun _ h => nomatch h)⟩⟩⟩⟩)) (loops_n 0 lk16_5 fun k hk => by omega) L16_5 (fun ρ => (((ρ.getD 4 default).lst.length : Int) - (ρ.getD 0 default).int).toNat) le16_5 fun ρ _ hq => ?_
  obtain ⟨x6, x7, x8, x10, x11, x12, x13, x14, x15, x16, x17, x18, x19, x20, g, b, acc, j, rfl, hj, hm, ha, hl⟩ : prC5 ρ := hq
  by_cases hlt : j < g.E.length
  · have hn : ∀ acc' : List (List D), acc ++ (mItem g.E b) j = acc' → RoundOk F (R L16_5.key) (fun ρ => (((ρ.getD 4 default).lst.length : Int) - (ρ.getD 0 default).int).toNat) L16_5 [.i (j : Int), .s g.nm, .b g.dr, .l g.N, .l g.E, .l g.C, x6, x7, x8, .l b, x10, x11, x12, x13, x14, x15, x16, x17, x18, x19, x20, .l acc] [.i (-1), .i ((j + 1 : Nat) : Int), .l acc'] := fun acc' h => by
      subst h
      refine round_next ⟨⟨x6, x7, x8, x10, x11, x12, x13, x14, x15, x16, x17, x18, x19, x20, g, b, acc ++ (mItem g.E b) j, j + 1, rfl, by omega, hm, by rw [List.length_append]; have := mItem_len g.E b j; omega, hl⟩, ?_, ?_⟩
      · show ((g.E.length : Int) - ((j + 1 : Nat) : Int)).toNat < ((g.E.length : Int) - (j : Int)).toNat
        omega
      · show lpG (mItem g.E b) g.E.length (j + 1) (acc ++ (mItem g.E b) j) = lpG (mItem g.E b) g.E.length j acc
        unfold lpG
        rw [coll_next (f := (mItem g.E b)) hlt acc]
    have c0 : decide ((j : Int) < (g.E.length : Int)) = true := decide_eq_true (by omega)
    have c1 : decide ((0 : Int) ≤ (j : Int)) = true := decide_eq_true (by omega)
    have c2 : IntKind.i64.wrap ((j : Int) + 1) = ((j + 1 : Nat) : Int) := nat_wrap (by omega)
    have c4 : ∀ z : List D, decide ((((acc ++ [z]).length : Nat) : Int) ≤ 1599289640401) = true := fun z => decide_eq_true (by rw [List.length_append, List.length_cons, List.length_nil]; omega)
    have c5 : decide ((j : Int) < (b.length : Int)) = true := decide_eq_true (by omega)
    have hT : mItem g.E b j = if (!(cS (el g.E j) 4 == ⟨#[]⟩) && !sameQ (rQ (el b j) 0) z4) = true then [tItem b j ((el g.E j).getD 4 default)] else [] := rfl
    cases hb : (!(cS (el g.E j) 4 == ⟨#[]⟩) && !sameQ (rQ (el b j) 0) z4)
    · have hb' : (!(((g.E.getD j []).getD 4 default).str == ⟨#[]⟩) && !((((b.getD j []).getD 0 default).int == 0) && ((((b.getD j []).getD 1 default).int == 0) && ((((b.getD j []).getD 2 default).int == 0) && (((b.getD j []).getD 3 default).int == 0))))) = false := hb
      rw [hb, if_neg (by decide)] at hT
      simp only [rt16_5, VT.ok, Nd.holds, X.ds, X.d, Op1.ev, Op2.ev, List.getD_cons_zero, List.getD_cons_succ, D.int_i, D.bool_b, D.lst_l, D.str_s, ite_b, ite_and, Int.toNat_natCast, if_true, Bool.false_eq_true, if_false, implies_true, true_and, c0, c1, c2, c4, c5, hb']
      exact hn acc (by rw [hT, List.append_nil])
    · have hb' : (!(((g.E.getD j []).getD 4 default).str == ⟨#[]⟩) && !((((b.getD j []).getD 0 default).int == 0) && ((((b.getD j []).getD 1 default).int == 0) && ((((b.getD j []).getD 2 default).int == 0) && (((b.getD j []).getD 3 default).int == 0))))) = true := hb
      rw [hb, if_pos rfl] at hT
      simp only [rt16_5, VT.ok, Nd.holds, X.ds, X.d, Op1.ev, Op2.ev, List.getD_cons_zero, List.getD_cons_succ, D.int_i, D.bool_b, D.lst_l, D.str_s, ite_b, ite_and, Int.toNat_natCast, if_true, implies_true, true_and, c0, c1, c2, c4, c5, hb']
      exact hn _ (by rw [hT]; rfl)
  · have hj' : g.E.length = j := by omega
    subst hj'
    have c0 : decide ((g.E.length : Int) < (g.E.length : Int)) = false := decide_eq_false (by omega)
    simp only [rt16_5, VT.ok, Nd.holds, X.ds, X.d, Op1.ev, Op2.ev, List.getD_cons_zero, List.getD_cons_succ, D.int_i, D.bool_b, D.lst_l, D.str_s, ite_b, ite_and, Int.toNat_natCast, Bool.false_eq_true, if_false, c0]
    refine round_exit (by omega) ?_
    show lpG (mItem g.E b) g.E.length g.E.length acc = _
    unfold lpG
    rw [coll_end]
    try rfl
end Go.Proofs.Ythpppbfiiphgoaa.rv
namespace Go.RV
open Go.Proofs.Ythpppbfiiphgoaa.rv
theorem ord_len {g : Gd} (hv : validE g = 0) : (ordD g).length = g.C.length := by
  rw [ord_byKey, byKey_all _ _ rfl (dep_ok hv), idI_len]
theorem ord_mem {g : Gd} {x : Int} (h : x ∈ ordD g) : ∃ i : Nat, i < g.C.length ∧ x = (i : Int) := by
  unfold ordD collN at h
  simp only [List.mem_flatMap, List.drop_zero, List.mem_range] at h
  obtain ⟨d, _, i, hi, hx⟩ := h
  split at hx
  · simp only [List.mem_singleton] at hx
    exact ⟨i, hi, hx⟩
  · cases hx
theorem ord_ok {g : Gd} {c : List (List D)} (hc : c.length = g.C.length) : ∀ i, i < ((ordD g).map encI).length → (el ((ordD g).map encI) i).getD 0 default = .i (cI (el ((ordD g).map encI) i) 0) ∧ 0 ≤ cI (el ((ordD g).map encI) i) 0 ∧ cI (el ((ordD g).map encI) i) 0 < c.length := fun i hi => by
  rw [List.length_map] at hi
  have e : el ((ordD g).map encI) i = [.i ((ordD g).getD i 0)] := rowI hi
  obtain ⟨k, hk, hx⟩ := ord_mem (getD_mem (0 : Int) hi)
  rw [e]
  refine ⟨rfl, ?_, ?_⟩
  · show 0 ≤ (ordD g).getD i 0
    omega
  · show (ordD g).getD i 0 < c.length
    omega
theorem grp_coll (c : List (List D)) (o : List Int) : collN (fun i => [gItem c (cI (el (o.map encI) i) 0)]) (o.map encI).length 0 = o.map (gItem c) := by
  rw [coll_map (fun x => gItem c (cI x 0)), List.map_map]
  rfl
theorem grp_ref (g : Gd) (c : List (List D)) : collN (fun d => collN (dItem g c (d : Int)) g.C.length 0) 7 1 = (ordD g).map (gItem c) := by
  unfold ordD collN
  rw [List.map_flatMap]
  congr 1
  funext d
  rw [List.map_flatMap]
  congr 1
  funext i
  unfold dItem
  split <;> rfl
theorem fitB_f {g : Gd} {n c r l : List (List D)} (h : fitB g n c r l = false) : validE g = 0 ∧ n.length = g.N.length ∧ c.length = g.C.length ∧ r.length = g.E.length ∧ l.length = g.E.length := by
  simp only [fitB, Bool.or_eq_false_iff, Bool.not_eq_false', beq_iff_eq] at h
  omega
theorem ptsR_of {e : TypeId} {r : List (List D)} (h : ∀ x ∈ r, FitsF [.sl e [.int .i64, .int .i64]] x) (hq : ∀ x ∈ r, (cL x 0).length ≤ 8796093022208) : ptsR r := fun i hi => by
  have hm := getD_mem [] hi
  refine ⟨?_, hq _ hm⟩
  obtain ⟨x, e, hx⟩ := fits1 (h _ hm)
  obtain ⟨ps, rfl, _⟩ := wf_sl hx
  rw [show el r i = [.l ps] from e]
  rfl
theorem fitsDr {e1 e2 e3 e4 e5 e6 : TypeId} {c1 c2 c5 c6 : List CT} {a9 a10 a11 a12 a13 a14 : CT} {ds : List D} (h : FitsF (.sl e1 c1 :: .sl e2 c2 :: .sl e3 [.sl e4 [.int .i64, .int .i64]] :: .sl e5 c5 :: a9 :: a10 :: a11 :: a12 :: a13 :: a14 :: .sl e6 c6 :: []) ds) :
    ∃ (n c r l : List (List D)) (x9 x10 x11 x12 x13 x14 x15 : D), ds = [.l n, .l c, .l r, .l l, x9, x10, x11, x12, x13, x14, x15] ∧ (∀ x ∈ r, FitsF [.sl e4 [.int .i64, .int .i64]] x) ∧ (∀ x ∈ n, FitsF c1 x) ∧ (∀ x ∈ c, FitsF c2 x) ∧ ∀ x ∈ l, FitsF c5 x := by
  match ds, h with
  | [d0, d1, d2, d3, d4, d5, d6, d7, d8, d9, d10], ⟨h0, h1, h2, h3, _⟩ =>
    obtain ⟨n, rfl, _, hn⟩ := wf_sl h0
    obtain ⟨c, rfl, _, hc⟩ := wf_sl h1
    obtain ⟨r, rfl, _, hr⟩ := wf_sl h2
    obtain ⟨l, rfl, _, hl⟩ := wf_sl h3
    exact ⟨n, c, r, l, d4, d5, d6, d7, d8, d9, d10, rfl, hr, hn, hc, hl⟩
end Go.RV
namespace Go.Proofs.Ythpppbfiiphgoaa.rv
set_option maxRecDepth 10000
open Go.RV
theorem m15 : Meets Try.prog 15 S15 (R 15) (F 15) := by
  refine meets_of_vt (pre := R) (Φ := F) mixed (sgAt_all (P := Try.prog) (pre := R) (Φ := F) (l := sg15) (List.forall_mem_cons.2 ⟨Meets.at (pre := R) (Φ := F) m30, List.forall_mem_cons.2 ⟨Meets.at (pre := R) (Φ := F) m31, List.forall_mem_cons.2 ⟨Meets.at (pre := R) (Φ := F) m32, List.forall_mem_cons.2 ⟨Meets.at (pre := R) (Φ := F) m13, List.forall_mem_cons.2 ⟨Meets.at (pre := R) (Φ := F) m11, (fun _ h => nomatch h)⟩⟩⟩⟩⟩)) Try.func15 b15 n15 (loops_n 5 k15 fun k hk => match k, hk with | 0, _ => loop_this lf15_0 loopM15_0 | 1, _ => loop_this lf15_1 loopM15_1 | 2, _ => loop_this lf15_2 loopM15_2 | 3, _ => loop_this lf15_3 loopM15_3 | 4, _ => loop_this lf15_4 loopM15_4) e15 fun ds hf hq => ?_
  obtain ⟨g, ds', rfl, h5, _⟩ := fitsG hf.flat
  obtain ⟨n, c, r, l, x9, x10, x11, x12, x13, x14, x15, rfl, hr, _⟩ := fitsDr h5
  have hq : ∀ x ∈ r, (cL x 0).length ≤ 8796093022208 := hq
  have hval : buildD [.s g.nm, .b g.dr, .l g.N, .l g.E, .l g.C, .l n, .l c, .l r, .l l, x9, x10, x11, x12, x13, x14, x15] = outS (buildS g n c r l) := rfl
  have hv0 : validD [.s g.nm, .b g.dr, .l g.N, .l g.E, .l g.C] = [.i (validE g)] := rfl
  have hfit : ((((!(validE g == 0) || !((n.length : Int) == (g.N.length : Int))) || !((c.length : Int) == (g.C.length : Int))) || !((r.length : Int) == (g.E.length : Int))) || !((l.length : Int) == (g.E.length : Int))) = fitB g n c r l := rfl
  rw [show F 15 = buildD from rfl]
  show VT.ok F [.s g.nm, .b g.dr, .l g.N, .l g.E, .l g.C, .l n, .l c, .l r, .l l, x9, x10, x11, x12, x13, x14, x15] R (fun out => out = buildD [.s g.nm, .b g.dr, .l g.N, .l g.E, .l g.C, .l n, .l c, .l r, .l l, x9, x10, x11, x12, x13, x14, x15]) vt15
  rw [hval]
  cases h1 : fitB g n c r l
  · obtain ⟨k0, k1, k2, k3, k4⟩ := fitB_f h1
    obtain ⟨⟨m1, m2, m3⟩, _⟩ := valid_parts k0
    have hord := ord_len k0
    have hps := ptsR_of hr hq
    have hbd : ∀ I : List (List D), bdsD [.l I] = [.i (bndS I).1, .i (bndS I).2.1, .i (bndS I).2.2.1, .i (bndS I).2.2.2] := fun _ => rfl
    have hva : ∀ I : List (List D), valD [.i (bndS I).1, .i (bndS I).2.1, .i (bndS I).2.2.1, .i (bndS I).2.2.2, .l I] = [.i (validS I (bndS I))] := fun _ => rfl
    have s1 : ((ordD g).map (gItem c)).length ≤ 16 := by rw [List.length_map, hord]; exact m3
    have s2 := coll_len (f := fun i => [rItem r i]) (n := g.E.length) (i := 0) (m := 1) (fun _ => Nat.le_refl _)
    have s3 := coll_len (f := fun i => [nItem n i]) (n := g.N.length) (i := 0) (m := 1) (fun _ => Nat.le_refl _)
    have s4 := coll_len (f := lItem g.N 1 n) (n := g.N.length) (i := 0) (m := 1) (lItem_len g.N 1 n)
    have s5 := coll_len (f := mItem g.E l) (n := g.E.length) (i := 0) (m := 1) (mItem_len g.E l)
    have hI : ((((((ordD g).map (gItem c)) ++ collN (fun i => [rItem r i]) g.E.length 0) ++ collN (fun i => [nItem n i]) g.N.length 0) ++ collN (lItem g.N 1 n) g.N.length 0) ++ collN (mItem g.E l) g.E.length 0) = itemsD g n c r l := rfl
    have t2 : (((ordD g).map (gItem c)) ++ collN (fun i => [rItem r i]) g.E.length 0).length ≤ 1000 := by simp only [List.length_append]; omega
    have t3 : ((((ordD g).map (gItem c)) ++ collN (fun i => [rItem r i]) g.E.length 0) ++ collN (fun i => [nItem n i]) g.N.length 0).length ≤ 1000 := by simp only [List.length_append]; omega
    have t4 : (((((ordD g).map (gItem c)) ++ collN (fun i => [rItem r i]) g.E.length 0) ++ collN (fun i => [nItem n i]) g.N.length 0) ++ collN (lItem g.N 1 n) g.N.length 0).length ≤ 1000 := by simp only [List.length_append]; omega
    have t5 : ((((((ordD g).map (gItem c)) ++ collN (fun i => [rItem r i]) g.E.length 0) ++ collN (fun i => [nItem n i]) g.N.length 0) ++ collN (lItem g.N 1 n) g.N.length 0) ++ collN (mItem g.E l) g.E.length 0).length ≤ 1000 := by simp only [List.length_append]; omega
    have hgr : grpsD [.s g.nm, .b g.dr, .l g.N, .l g.E, .l g.C] = [.l ((ordD g).map encI)] := rfl
    have l0 : lpB0 [.l ((ordD g).map encI), .i (((ordD g).map encI).length : Int), .i 0, .l n, .l c, .l r, .l l, x9, x10, x11, x12, x13, x14, x15, .i 0, .i 0, .i 0, .i 0, .l []] = [.i 0, .i (((ordD g).map encI).length : Int), .l ((ordD g).map (gItem c))] := by
      rw [← grp_coll c (ordD g)]; rfl
    have p0 : prB0 [.l ((ordD g).map encI), .i (((ordD g).map encI).length : Int), .i 0, .l n, .l c, .l r, .l l, x9, x10, x11, x12, x13, x14, x15, .i 0, .i 0, .i 0, .i 0, .l []] := ⟨_, _, _, _, _, _, _, _, _, _, _, _, _, _, (ordD g).map encI, c, [], 0, rfl, Nat.zero_le _, by rw [List.length_map, hord]; omega, by show (0 : Nat) ≤ _; omega, ord_ok (by omega)⟩
    rw [List.length_map] at l0 p0
    have l1 : lpB1 [.i (g.E.length : Int), .i 0, .l n, .l c, .l r, .l l, x9, x10, x11, x12, x13, x14, x15, .i 0, .i 0, .i 0, .i 0, .l ((ordD g).map (gItem c))] = [.i 0, .i (g.E.length : Int), .l (((ordD g).map (gItem c)) ++ collN (fun i => [rItem r i]) g.E.length 0)] := rfl
    have p1 : prB1 [.i (g.E.length : Int), .i 0, .l n, .l c, .l r, .l l, x9, x10, x11, x12, x13, x14, x15, .i 0, .i 0, .i 0, .i 0, .l ((ordD g).map (gItem c))] := ⟨_, _, _, _, _, _, _, _, _, _, _, _, _, _, g.E.length, r, _, 0, rfl, Nat.zero_le _, m2, by omega, by omega, hps⟩
    have l2 : lpB2 [.i (g.N.length : Int), .i 0, .l n, .l c, .l r, .l l, x9, x10, x11, x12, x13, x14, x15, .i 0, .i 0, .i 0, .i 0, .l (((ordD g).map (gItem c)) ++ collN (fun i => [rItem r i]) g.E.length 0)] = [.i 0, .i (g.N.length : Int), .l ((((ordD g).map (gItem c)) ++ collN (fun i => [rItem r i]) g.E.length 0) ++ collN (fun i => [nItem n i]) g.N.length 0)] := rfl
    have p2 : prB2 [.i (g.N.length : Int), .i 0, .l n, .l c, .l r, .l l, x9, x10, x11, x12, x13, x14, x15, .i 0, .i 0, .i 0, .i 0, .l (((ordD g).map (gItem c)) ++ collN (fun i => [rItem r i]) g.E.length 0)] := ⟨_, _, _, _, _, _, _, _, _, _, _, _, _, _, g.N.length, n, _, 0, rfl, Nat.zero_le _, by omega, by omega, by omega⟩
    have l3 : lpB3 [.l g.N, .i (g.N.length : Int), .i 0, .l n, .l c, .l r, .l l, x9, x10, x11, x12, x13, x14, x15, .i 0, .i 0, .i 0, .i 0, .l ((((ordD g).map (gItem c)) ++ collN (fun i => [rItem r i]) g.E.length 0) ++ collN (fun i => [nItem n i]) g.N.length 0)] = [.i 0, .i (g.N.length : Int), .l (((((ordD g).map (gItem c)) ++ collN (fun i => [rItem r i]) g.E.length 0) ++ collN (fun i => [nItem n i]) g.N.length 0) ++ collN (lItem g.N 1 n) g.N.length 0)] := rfl
    have p3 : prB3 [.l g.N, .i (g.N.length : Int), .i 0, .l n, .l c, .l r, .l l, x9, x10, x11, x12, x13, x14, x15, .i 0, .i 0, .i 0, .i 0, .l ((((ordD g).map (gItem c)) ++ collN (fun i => [rItem r i]) g.E.length 0) ++ collN (fun i => [nItem n i]) g.N.length 0)] := ⟨_, _, _, _, _, _, _, _, _, _, _, _, _, _, g.N, n, _, 0, rfl, Nat.zero_le _, by omega, by omega, by omega⟩
    have l4 : lpB4 [.l g.E, .i (g.E.length : Int), .i 0, .l n, .l c, .l r, .l l, x9, x10, x11, x12, x13, x14, x15, .i 0, .i 0, .i 0, .i 0, .l (((((ordD g).map (gItem c)) ++ collN (fun i => [rItem r i]) g.E.length 0) ++ collN (fun i => [nItem n i]) g.N.length 0) ++ collN (lItem g.N 1 n) g.N.length 0)] = [.i 0, .i (g.E.length : Int), .l ((((((ordD g).map (gItem c)) ++ collN (fun i => [rItem r i]) g.E.length 0) ++ collN (fun i => [nItem n i]) g.N.length 0) ++ collN (lItem g.N 1 n) g.N.length 0) ++ collN (mItem g.E l) g.E.length 0)] := rfl
    have p4 : prB4 [.l g.E, .i (g.E.length : Int), .i 0, .l n, .l c, .l r, .l l, x9, x10, x11, x12, x13, x14, x15, .i 0, .i 0, .i 0, .i 0, .l (((((ordD g).map (gItem c)) ++ collN (fun i => [rItem r i]) g.E.length 0) ++ collN (fun i => [nItem n i]) g.N.length 0) ++ collN (lItem g.N 1 n) g.N.length 0)] := ⟨_, _, _, _, _, _, _, _, _, _, _, _, _, _, g.E, l, _, 0, rfl, Nat.zero_le _, m2, by omega, by omega⟩
    have hbp : bdPre [.l ((((((ordD g).map (gItem c)) ++ collN (fun i => [rItem r i]) g.E.length 0) ++ collN (fun i => [nItem n i]) g.N.length 0) ++ collN (lItem g.N 1 n) g.N.length 0) ++ collN (mItem g.E l) g.E.length 0)] := by show ((((((ordD g).map (gItem c)) ++ collN (fun i => [rItem r i]) g.E.length 0) ++ collN (fun i => [nItem n i]) g.N.length 0) ++ collN (lItem g.N 1 n) g.N.length 0) ++ collN (mItem g.E l) g.E.length 0).length ≤ 1000000; omega
    have hB : buildS g n c r l = if validS ((((((ordD g).map (gItem c)) ++ collN (fun i => [rItem r i]) g.E.length 0) ++ collN (fun i => [nItem n i]) g.N.length 0) ++ collN (lItem g.N 1 n) g.N.length 0) ++ collN (mItem g.E l) g.E.length 0) (bndS ((((((ordD g).map (gItem c)) ++ collN (fun i => [rItem r i]) g.E.length 0) ++ collN (fun i => [nItem n i]) g.N.length 0) ++ collN (lItem g.N 1 n) g.N.length 0) ++ collN (mItem g.E l) g.E.length 0)) = 0 then (bndS ((((((ordD g).map (gItem c)) ++ collN (fun i => [rItem r i]) g.E.length 0) ++ collN (fun i => [nItem n i]) g.N.length 0) ++ collN (lItem g.N 1 n) g.N.length 0) ++ collN (mItem g.E l) g.E.length 0), ((((((ordD g).map (gItem c)) ++ collN (fun i => [rItem r i]) g.E.length 0) ++ collN (fun i => [nItem n i]) g.N.length 0) ++ collN (lItem g.N 1 n) g.N.length 0) ++ collN (mItem g.E l) g.E.length 0), 0) else (z4, [], validS ((((((ordD g).map (gItem c)) ++ collN (fun i => [rItem r i]) g.E.length 0) ++ collN (fun i => [nItem n i]) g.N.length 0) ++ collN (lItem g.N 1 n) g.N.length 0) ++ collN (mItem g.E l) g.E.length 0) (bndS ((((((ordD g).map (gItem c)) ++ collN (fun i => [rItem r i]) g.E.length 0) ++ collN (fun i => [nItem n i]) g.N.length 0) ++ collN (lItem g.N 1 n) g.N.length 0) ++ collN (mItem g.E l) g.E.length 0))) := by
      rw [hI]; unfold buildS; rw [h1, if_neg (by decide)]
    simp only [vt15, VT.ok, Nd.holds, X.outs, X.ds, X.d, Op1.ev, Op2.ev, takeD_zero, takeD_cons, List.cons_append, List.nil_append, List.getD_cons_zero, List.getD_cons_succ, D.int_i, D.bool_b, D.lst_l, ite_b, ite_or, List.length_map, Bool.false_eq_true, if_false, implies_true, true_and, F30, R30, F13, R13, F11, R11, F31, R31, F11500, R11500, F11501, R11501, F11502, R11502, F11503, R11503, F11504, R11504, hv0, hfit, h1, hgr, l0, l1, l2, l3, l4, hbd, hva]
    refine ⟨fun _ => k0, fun _ => p0, fun _ => p1, fun _ => p2, fun _ => p3, fun _ => p4, fun _ => hbp, ?_⟩
    rw [hB]
    by_cases hz : validS ((((((ordD g).map (gItem c)) ++ collN (fun i => [rItem r i]) g.E.length 0) ++ collN (fun i => [nItem n i]) g.N.length 0) ++ collN (lItem g.N 1 n) g.N.length 0) ++ collN (mItem g.E l) g.E.length 0) (bndS ((((((ordD g).map (gItem c)) ++ collN (fun i => [rItem r i]) g.E.length 0) ++ collN (fun i => [nItem n i]) g.N.length 0) ++ collN (lItem g.N 1 n) g.N.length 0) ++ collN (mItem g.E l) g.E.length 0)) = 0
    · rw [beq_t hz, if_pos hz]; rfl
    · rw [beq_f hz, if_neg hz]; rfl
  · have hB : buildS g n c r l = (z4, [], 1) := by unfold buildS; rw [h1, if_pos rfl]
    simp only [vt15, VT.ok, Nd.holds, X.outs, X.ds, X.d, Op1.ev, Op2.ev, takeD_zero, takeD_cons, List.cons_append, List.nil_append, List.getD_cons_zero, List.getD_cons_succ, D.int_i, D.bool_b, D.lst_l, ite_b, ite_or, if_true, implies_true, true_and, takeD1_0, F30, R30, F13, R13, F11, R11, F31, R31, F11500, R11500, F11501, R11501, F11502, R11502, F11503, R11503, F11504, R11504, hv0, hfit, h1, hB]
    rfl
theorem m16 : Meets Try.prog 16 S16 (R 16) (F 16) := by
  refine meets_of_vt (pre := R) (Φ := F) mixed (sgAt_all (P := Try.prog) (pre := R) (Φ := F) (l := sg16) (List.forall_mem_cons.2 ⟨Meets.at (pre := R) (Φ := F) m20, List.forall_mem_cons.2 ⟨Meets.at (pre := R) (Φ := F) m33, List.forall_mem_cons.2 ⟨Meets.at (pre := R) (Φ := F) m14, List.forall_mem_cons.2 ⟨Meets.at (pre := R) (Φ := F) m12, (fun _ h => nomatch h)⟩⟩⟩⟩)) Try.func16 b16 n16 (loops_n 6 k16 fun k hk => match k, hk with | 0, _ => loop_this lf16_0 loopM16_0 | 1, _ => loop_this lf16_1 loopM16_1 | 2, _ => loop_this lf16_2 loopM16_2 | 3, _ => loop_this lf16_3 loopM16_3 | 4, _ => loop_this lf16_4 loopM16_4 | 5, _ => loop_this lf16_5 loopM16_5) e16 fun ds hf hq => ?_
  obtain ⟨g, ds', rfl, h5, _⟩ := fitsG hf.flat
  obtain ⟨n, c, r, l, x9, x10, x11, x12, x13, x14, x15, rfl, hr, _⟩ := fitsDr h5
  have hq : ∀ x ∈ r, (cL x 0).length ≤ 8796093022208 := hq
  have hval : buildD [.s g.nm, .b g.dr, .l g.N, .l g.E, .l g.C, .l n, .l c, .l r, .l l, x9, x10, x11, x12, x13, x14, x15] = outS (buildS g n c r l) := rfl
  have hv0 : validD [.s g.nm, .b g.dr, .l g.N, .l g.E, .l g.C] = [.i (validE g)] := rfl
  have hfit : ((((!(validE g == 0) || !((n.length : Int) == (g.N.length : Int))) || !((c.length : Int) == (g.C.length : Int))) || !((r.length : Int) == (g.E.length : Int))) || !((l.length : Int) == (g.E.length : Int))) = fitB g n c r l := rfl
  rw [show F 16 = buildD from rfl]
  show VT.ok F [.s g.nm, .b g.dr, .l g.N, .l g.E, .l g.C, .l n, .l c, .l r, .l l, x9, x10, x11, x12, x13, x14, x15] R (fun out => out = buildD [.s g.nm, .b g.dr, .l g.N, .l g.E, .l g.C, .l n, .l c, .l r, .l l, x9, x10, x11, x12, x13, x14, x15]) vt16
  rw [hval]
  cases h1 : fitB g n c r l
  · obtain ⟨k0, k1, k2, k3, k4⟩ := fitB_f h1
    obtain ⟨⟨m1, m2, m3⟩, _⟩ := valid_parts k0
    have hord := ord_len k0
    have hps := ptsR_of hr hq
    have hbd : ∀ I : List (List D), bdsD [.l I] = [.i (bndS I).1, .i (bndS I).2.1, .i (bndS I).2.2.1, .i (bndS I).2.2.2] := fun _ => rfl
    have hva : ∀ I : List (List D), valD [.i (bndS I).1, .i (bndS I).2.1, .i (bndS I).2.2.1, .i (bndS I).2.2.2, .l I] = [.i (validS I (bndS I))] := fun _ => rfl
    have s1 : ((ordD g).map (gItem c)).length ≤ 16 := by rw [List.length_map, hord]; exact m3
    have s2 := coll_len (f := fun i => [rItem r i]) (n := g.E.length) (i := 0) (m := 1) (fun _ => Nat.le_refl _)
    have s3 := coll_len (f := fun i => [nItem n i]) (n := g.N.length) (i := 0) (m := 1) (fun _ => Nat.le_refl _)
    have s4 := coll_len (f := lItem g.N 1 n) (n := g.N.length) (i := 0) (m := 1) (lItem_len g.N 1 n)
    have s5 := coll_len (f := mItem g.E l) (n := g.E.length) (i := 0) (m := 1) (mItem_len g.E l)
    have hI : ((((((ordD g).map (gItem c)) ++ collN (fun i => [rItem r i]) g.E.length 0) ++ collN (fun i => [nItem n i]) g.N.length 0) ++ collN (lItem g.N 1 n) g.N.length 0) ++ collN (mItem g.E l) g.E.length 0) = itemsD g n c r l := rfl
    have t2 : (((ordD g).map (gItem c)) ++ collN (fun i => [rItem r i]) g.E.length 0).length ≤ 1000 := by simp only [List.length_append]; omega
    have t3 : ((((ordD g).map (gItem c)) ++ collN (fun i => [rItem r i]) g.E.length 0) ++ collN (fun i => [nItem n i]) g.N.length 0).length ≤ 1000 := by simp only [List.length_append]; omega
    have t4 : (((((ordD g).map (gItem c)) ++ collN (fun i => [rItem r i]) g.E.length 0) ++ collN (fun i => [nItem n i]) g.N.length 0) ++ collN (lItem g.N 1 n) g.N.length 0).length ≤ 1000 := by simp only [List.length_append]; omega
    have t5 : ((((((ordD g).map (gItem c)) ++ collN (fun i => [rItem r i]) g.E.length 0) ++ collN (fun i => [nItem n i]) g.N.length 0) ++ collN (lItem g.N 1 n) g.N.length 0) ++ collN (mItem g.E l) g.E.length 0).length ≤ 1000 := by simp only [List.length_append]; omega
    have l0 : lpC0 [.i 1, .s g.nm, .b g.dr, .l g.N, .l g.E, .l g.C, .l n, .l c, .l r, .l l, x9, x10, x11, x12, x13, x14, x15, .i 0, .i 0, .i 0, .i 0, .l []] = [.i 0, .i 7, .l ((ordD g).map (gItem c))] := by
      rw [← grp_ref g c]; rfl
    have p0 : prC0 [.i 1, .s g.nm, .b g.dr, .l g.N, .l g.E, .l g.C, .l n, .l c, .l r, .l l, x9, x10, x11, x12, x13, x14, x15, .i 0, .i 0, .i 0, .i 0, .l []] := ⟨_, _, _, _, _, _, _, _, _, _, _, _, _, _, g, c, [], 1, rfl, by omega, m3, by show (0 : Nat) ≤ _; omega, by omega⟩
    have l1 : lpC2 [.i 0, .s g.nm, .b g.dr, .l g.N, .l g.E, .l g.C, .l n, .l c, .l r, .l l, x9, x10, x11, x12, x13, x14, x15, .i 0, .i 0, .i 0, .i 0, .l ((ordD g).map (gItem c))] = [.i 0, .i (g.E.length : Int), .l (((ordD g).map (gItem c)) ++ collN (fun i => [rItem r i]) g.E.length 0)] := rfl
    have p1 : prC2 [.i 0, .s g.nm, .b g.dr, .l g.N, .l g.E, .l g.C, .l n, .l c, .l r, .l l, x9, x10, x11, x12, x13, x14, x15, .i 0, .i 0, .i 0, .i 0, .l ((ordD g).map (gItem c))] := ⟨_, _, _, _, _, _, _, _, _, _, _, _, _, _, g, r, _, 0, rfl, Nat.zero_le _, m2, by omega, by omega, hps⟩
    have l2 : lpC3 [.i 0, .s g.nm, .b g.dr, .l g.N, .l g.E, .l g.C, .l n, .l c, .l r, .l l, x9, x10, x11, x12, x13, x14, x15, .i 0, .i 0, .i 0, .i 0, .l (((ordD g).map (gItem c)) ++ collN (fun i => [rItem r i]) g.E.length 0)] = [.i 0, .i (g.N.length : Int), .l ((((ordD g).map (gItem c)) ++ collN (fun i => [rItem r i]) g.E.length 0) ++ collN (fun i => [nItem n i]) g.N.length 0)] := rfl
    have p2 : prC3 [.i 0, .s g.nm, .b g.dr, .l g.N, .l g.E, .l g.C, .l n, .l c, .l r, .l l, x9, x10, x11, x12, x13, x14, x15, .i 0, .i 0, .i 0, .i 0, .l (((ordD g).map (gItem c)) ++ collN (fun i => [rItem r i]) g.E.length 0)] := ⟨_, _, _, _, _, _, _, _, _, _, _, _, _, _, g, n, _, 0, rfl, Nat.zero_le _, by omega, by omega, by omega⟩
    have l3 : lpC4 [.i 0, .s g.nm, .b g.dr, .l g.N, .l g.E, .l g.C, .l n, .l c, .l r, .l l, x9, x10, x11, x12, x13, x14, x15, .i 0, .i 0, .i 0, .i 0, .l ((((ordD g).map (gItem c)) ++ collN (fun i => [rItem r i]) g.E.length 0) ++ collN (fun i => [nItem n i]) g.N.length 0)] = [.i 0, .i (g.N.length : Int), .l (((((ordD g).map (gItem c)) ++ collN (fun i => [rItem r i]) g.E.length 0) ++ collN (fun i => [nItem n i]) g.N.length 0) ++ collN (lItem g.N 1 n) g.N.length 0)] := rfl
    have p3 : prC4 [.i 0, .s g.nm, .b g.dr, .l g.N, .l g.E, .l g.C, .l n, .l c, .l r, .l l, x9, x10, x11, x12, x13, x14, x15, .i 0, .i 0, .i 0, .i 0, .l ((((ordD g).map (gItem c)) ++ collN (fun i => [rItem r i]) g.E.length 0) ++ collN (fun i => [nItem n i]) g.N.length 0)] := ⟨_, _, _, _, _, _, _, _, _, _, _, _, _, _, g, n, _, 0, rfl, Nat.zero_le _, by omega, by omega, by omega⟩
    have l4 : lpC5 [.i 0, .s g.nm, .b g.dr, .l g.N, .l g.E, .l g.C, .l n, .l c, .l r, .l l, x9, x10, x11, x12, x13, x14, x15, .i 0, .i 0, .i 0, .i 0, .l (((((ordD g).map (gItem c)) ++ collN (fun i => [rItem r i]) g.E.length 0) ++ collN (fun i => [nItem n i]) g.N.length 0) ++ collN (lItem g.N 1 n) g.N.length 0)] = [.i 0, .i (g.E.length : Int), .l ((((((ordD g).map (gItem c)) ++ collN (fun i => [rItem r i]) g.E.length 0) ++ collN (fun i => [nItem n i]) g.N.length 0) ++ collN (lItem g.N 1 n) g.N.length 0) ++ collN (mItem g.E l) g.E.length 0)] := rfl
    have p4 : prC5 [.i 0, .s g.nm, .b g.dr, .l g.N, .l g.E, .l g.C, .l n, .l c, .l r, .l l, x9, x10, x11, x12, x13, x14, x15, .i 0, .i 0, .i 0, .i 0, .l (((((ordD g).map (gItem c)) ++ collN (fun i => [rItem r i]) g.E.length 0) ++ collN (fun i => [nItem n i]) g.N.length 0) ++ collN (lItem g.N 1 n) g.N.length 0)] := ⟨_, _, _, _, _, _, _, _, _, _, _, _, _, _, g, l, _, 0, rfl, Nat.zero_le _, m2, by omega, by omega⟩
    have hbp : bdPre [.l ((((((ordD g).map (gItem c)) ++ collN (fun i => [rItem r i]) g.E.length 0) ++ collN (fun i => [nItem n i]) g.N.length 0) ++ collN (lItem g.N 1 n) g.N.length 0) ++ collN (mItem g.E l) g.E.length 0)] := by show ((((((ordD g).map (gItem c)) ++ collN (fun i => [rItem r i]) g.E.length 0) ++ collN (fun i => [nItem n i]) g.N.length 0) ++ collN (lItem g.N 1 n) g.N.length 0) ++ collN (mItem g.E l) g.E.length 0).length ≤ 1000000; omega
    have hB : buildS g n c r l = if validS ((((((ordD g).map (gItem c)) ++ collN (fun i => [rItem r i]) g.E.length 0) ++ collN (fun i => [nItem n i]) g.N.length 0) ++ collN (lItem g.N 1 n) g.N.length 0) ++ collN (mItem g.E l) g.E.length 0) (bndS ((((((ordD g).map (gItem c)) ++ collN (fun i => [rItem r i]) g.E.length 0) ++ collN (fun i => [nItem n i]) g.N.length 0) ++ collN (lItem g.N 1 n) g.N.length 0) ++ collN (mItem g.E l) g.E.length 0)) = 0 then (bndS ((((((ordD g).map (gItem c)) ++ collN (fun i => [rItem r i]) g.E.length 0) ++ collN (fun i => [nItem n i]) g.N.length 0) ++ collN (lItem g.N 1 n) g.N.length 0) ++ collN (mItem g.E l) g.E.length 0), ((((((ordD g).map (gItem c)) ++ collN (fun i => [rItem r i]) g.E.length 0) ++ collN (fun i => [nItem n i]) g.N.length 0) ++ collN (lItem g.N 1 n) g.N.length 0) ++ collN (mItem g.E l) g.E.length 0), 0) else (z4, [], validS ((((((ordD g).map (gItem c)) ++ collN (fun i => [rItem r i]) g.E.length 0) ++ collN (fun i => [nItem n i]) g.N.length 0) ++ collN (lItem g.N 1 n) g.N.length 0) ++ collN (mItem g.E l) g.E.length 0) (bndS ((((((ordD g).map (gItem c)) ++ collN (fun i => [rItem r i]) g.E.length 0) ++ collN (fun i => [nItem n i]) g.N.length 0) ++ collN (lItem g.N 1 n) g.N.length 0) ++ collN (mItem g.E l) g.E.length 0))) := by
      rw [hI]; unfold buildS; rw [h1, if_neg (by decide)]
    simp only [vt16, VT.ok, Nd.holds, X.outs, X.ds, X.d, Op1.ev, Op2.ev, takeD_zero, takeD_cons, List.cons_append, List.nil_append, List.getD_cons_zero, List.getD_cons_succ, D.int_i, D.bool_b, D.lst_l, ite_b, ite_or, Bool.false_eq_true, if_false, implies_true, true_and, F20, R20, F14, R14, F12, R12, F11601, R11601, F11602, R11602, F11603, R11603, F11604, R11604, F11605, R11605, hv0, hfit, h1, l0, l1, l2, l3, l4, hbd, hva]
    refine ⟨fun _ => p0, fun _ => p1, fun _ => p2, fun _ => p3, fun _ => p4, ?_⟩
    rw [hB]
    by_cases hz : validS ((((((ordD g).map (gItem c)) ++ collN (fun i => [rItem r i]) g.E.length 0) ++ collN (fun i => [nItem n i]) g.N.length 0) ++ collN (lItem g.N 1 n) g.N.length 0) ++ collN (mItem g.E l) g.E.length 0) (bndS ((((((ordD g).map (gItem c)) ++ collN (fun i => [rItem r i]) g.E.length 0) ++ collN (fun i => [nItem n i]) g.N.length 0) ++ collN (lItem g.N 1 n) g.N.length 0) ++ collN (mItem g.E l) g.E.length 0)) = 0
    · rw [beq_t hz, if_pos hz]; rfl
    · rw [beq_f hz, if_neg hz]; rfl
  · have hB : buildS g n c r l = (z4, [], 1) := by unfold buildS; rw [h1, if_pos rfl]
    simp only [vt16, VT.ok, Nd.holds, X.outs, X.ds, X.d, Op1.ev, Op2.ev, takeD_zero, takeD_cons, List.cons_append, List.nil_append, List.getD_cons_zero, List.getD_cons_succ, D.int_i, D.bool_b, D.lst_l, ite_b, ite_or, if_true, implies_true, true_and, F20, R20, F14, R14, F12, R12, F11601, R11601, F11602, R11602, F11603, R11603, F11604, R11604, F11605, R11605, hv0, hfit, h1, hB]
    rfl
def awI : List (List D) := [[.i 2, .i 0, .i 0, .i 0, .i 20, .i 10, .l [], .s ⟨#[]⟩], [.i 4, .i 0, .i 0, .i 0, .i 20, .i 10, .l [], .s ⟨#[97]⟩]]
theorem aw1 : buildD [.s ⟨#[103]⟩, .b false, .l [[.s ⟨#[97]⟩, .s ⟨#[97]⟩, .i 20, .i 10, .i (-1), .l []]], .l [], .l [], .l [[.i 0, .i 0, .i 20, .i 10]], .l [], .l [], .l [], .i 0, .i 0, .i 0, .i 0, .i 0, .i 0, .l []] = [.i 0, .i 0, .i 20, .i 10, .l awI, .i 0] := by kernel_rfl
theorem aw2 : buildD [.s ⟨#[103]⟩, .b false, .l [[.s ⟨#[97]⟩, .s ⟨#[97]⟩, .i 20, .i 10, .i (-1), .l []]], .l [], .l [], .l [], .l [], .l [], .l [], .i 0, .i 0, .i 0, .i 0, .i 0, .i 0, .l []] = [.i 0, .i 0, .i 0, .i 0, .l [], .i 1] := by kernel_rfl
theorem aw3 : moveD [.i 0, .i 0, .i 20, .i 10, .l awI, .i 268435456, .i 0] = [.i 0, .i 0, .i 0, .i 0, .l [], .i 3] := by kernel_rfl
theorem aw4 : moveD [.i 0, .i 0, .i 20, .i 10, .l awI, .i 1, .i 2] = [.i 1, .i 2, .i 21, .i 12, .l (awI.map (mvI 1 2)), .i 0] := by kernel_rfl
theorem aw5 : valD [.i 5, .i 5, .i 5, .i 5, .l [[.i 3, .i 0, .i 0, .i 0, .i 0, .i 0, .l [[.i 5, .i 5]], .s ⟨#[]⟩]]] = [.i 0] := by kernel_rfl
theorem aw6 : valD [.i 0, .i 0, .i 5, .i 5, .l [[.i 3, .i 0, .i 0, .i 0, .i 0, .i 0, .l [[.i 5, .i 5]], .s ⟨#[]⟩]]] = [.i 13] := by kernel_rfl
theorem m10 : Meets Try.prog 10 S10 (R 10) (F 10) := by
  refine meets_of_vt (pre := R) (Φ := F) mixed (sgAt_all (P := Try.prog) (pre := R) (Φ := F) (l := sg10) (List.forall_mem_cons.2 ⟨Meets.at (pre := R) (Φ := F) m15, List.forall_mem_cons.2 ⟨Meets.at (pre := R) (Φ := F) m18, List.forall_mem_cons.2 ⟨Meets.at (pre := R) (Φ := F) m11, (fun _ h => nomatch h)⟩⟩⟩)) Try.func10 b10 n10 (loops_n 0 k10 fun k hk => by omega) e10 fun ds hf hq => ?_
  have e0 := fits0 hf.flat
  subst e0
  have hp : ∀ a b c d e f g h x9 x10 x11 x12 x13 x14 x15 : D, prBuild [a, b, c, d, e, f, g, .l [], h, x9, x10, x11, x12, x13, x14, x15] := fun _ _ _ _ _ _ _ _ _ _ _ _ _ _ _ x hx => by cases hx
  have el : ((awI.length : Nat) : Int) = 2 := rfl
  have e1 : awI.getD (1 : Int).toNat [] = [.i 4, .i 0, .i 0, .i 0, .i 20, .i 10, .l [], .s ⟨#[97]⟩] := rfl
  simp only [vt10, VT.ok, Nd.holds, X.outs, X.ds, X.d, Op1.ev, Op2.ev, takeD_zero, takeD_cons, List.cons_append, List.nil_append, List.getD_cons_zero, List.getD_cons_succ, D.int_i, D.bool_b, D.lst_l, ite_b, ite_and, implies_true, true_and, F11, R11, F18, R18, F15, R15, F10, aw1, aw2, aw3, aw4, aw5, aw6, el, e1]
  refine ⟨fun _ => hp _ _ _ _ _ _ _ _ _ _ _ _ _ _ _, fun _ => hp _ _ _ _ _ _ _ _ _ _ _ _ _ _ _, ?_⟩
  trivial
end Go.Proofs.Ythpppbfiiphgoaa.rv
