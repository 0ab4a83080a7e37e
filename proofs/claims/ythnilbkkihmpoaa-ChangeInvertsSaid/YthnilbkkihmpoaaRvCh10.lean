/-
  Changes of graphs: nodes that are kept.
-/
import Derived.Test.YthnilbkkihmpoaaRvCh9
namespace Go.Proofs.Ythnilbkkihmpoaa.rv
open Go.RV
set_option maxRecDepth 10000

theorem idR_succ (n : Nat) : idR (n + 1) = idR n ++ [[.i (n : Int)]] := by simp [idR, List.range_succ]
theorem idR_len (n : Nat) : (idR n).length = n := by simp [idR]
theorem idR_el {n i : Nat} (h : i < n) : el (idR n) i = [.i (i : Int)] := by simp [idR, el, List.getD, h]
theorem loopM18_0 : LoopMeets Try.prog F (R L18_0.key) L18_0 lb18_0 := by
  refine loop_meets (pre := R) mixed (sgAt_all (P := Try.prog) (pre := R) (Φ := F) (l := sg18) (List.forall_mem_cons.2 ⟨Meets.at (pre := R) (Φ := F) m16, List.forall_mem_cons.2 ⟨MeetsRow.at (pre := R) (Φ := F) m36, (fun _ h => nomatch h)⟩⟩)) (loops_n 0 lk18_0 fun k hk => by omega) L18_0 (fun ρ => ((ρ.getD 0 default).int - (ρ.getD 1 default).int).toNat) le18_0 fun ρ _ hq => ?_
  obtain ⟨n, j, rfl, hj, hm⟩ : prK0 ρ := hq
  by_cases hlt : j < n
  · have hl : ∀ z : List D, decide (((idR j ++ [z]).length : Int) ≤ 17592186044416) = true := fun z => decide_eq_true (by simp [idR_len]; omega)
    simp (disch := omega) only [rt18_0, VT.ok, Nd.holds, X.ds, X.d, Op1.ev, Op2.ev, List.getD_cons_zero, List.getD_cons_succ, D.int_i, D.bool_b, D.lst_l, implies_true, true_and, ↓reduceIte, dlt_t, w64', hl]
    rw [← idR_succ]
    refine round_next ⟨⟨n, j + 1, rfl, by omega, hm⟩, ?_, rfl⟩
    show ((n : Int) - ((j + 1 : Nat) : Int)).toNat < ((n : Int) - (j : Int)).toNat
    omega
  · have hj' : j = n := by omega
    subst hj'
    simp (disch := omega) only [rt18_0, VT.ok, X.ds, X.d, Op2.ev, List.getD_cons_zero, List.getD_cons_succ, D.int_i, D.bool_b, Bool.false_eq_true, ↓reduceIte, dlt_f]
    refine round_exit (by omega) ?_
    show lpK0 [.i (j : Int), .i (j : Int), .l (idR j)] = _
    simp only [lpK0, Int.toNat_natCast]
theorem loopM19_0 : LoopMeets Try.prog F (R L19_0.key) L19_0 lb19_0 := by
  refine loop_meets (pre := R) mixed (sgAt_all (P := Try.prog) (pre := R) (Φ := F) (l := sg19) (List.forall_mem_cons.2 ⟨Meets.at (pre := R) (Φ := F) m17, (fun _ h => nomatch h)⟩)) (loops_n 0 lk19_0 fun k hk => by omega) L19_0 (fun ρ => (((ρ.getD 3 default).lst.length : Int) - (ρ.getD 0 default).int).toNat) le19_0 fun ρ _ hq => ?_
  obtain ⟨a, b, N, c, d, j, rfl, hj, hm⟩ : prK0r ρ := hq
  by_cases hlt : j < N.length
  · have hl : ∀ z : List D, decide (((idR j ++ [z]).length : Int) ≤ 17592186044416) = true := fun z => decide_eq_true (by simp [idR_len]; omega)
    simp (disch := omega) only [rt19_0, VT.ok, Nd.holds, X.ds, X.d, Op1.ev, Op2.ev, List.getD_cons_zero, List.getD_cons_succ, D.int_i, D.bool_b, D.lst_l, implies_true, true_and, ↓reduceIte, dlt_t, w64', hl]
    rw [← idR_succ]
    refine round_next ⟨⟨a, b, N, c, d, j + 1, rfl, by omega, hm⟩, ?_, rfl⟩
    show ((N.length : Int) - ((j + 1 : Nat) : Int)).toNat < ((N.length : Int) - (j : Int)).toNat
    omega
  · have hj' : j = N.length := by omega
    subst hj'
    simp (disch := omega) only [rt19_0, VT.ok, X.ds, X.d, Op1.ev, Op2.ev, List.getD_cons_zero, List.getD_cons_succ, D.int_i, D.bool_b, D.lst_l, Bool.false_eq_true, ↓reduceIte, dlt_f]
    refine round_exit (by omega) ?_
    show lpK0r [.i (N.length : Int), a, b, .l N, c, d, .l (idR N.length)] = _
    simp only [lpK0r]
theorem rmI_len' {l : List (List D)} {a : Nat} (h : a < l.length) : (rmI l a).length = l.length - 1 := by unfold rmI; simp; omega
theorem loopM18_1 : LoopMeets Try.prog F (R L18_1.key) L18_1 lb18_1 := by
  refine loop_meets (pre := R) mixed (sgAt_all (P := Try.prog) (pre := R) (Φ := F) (l := sg18) (List.forall_mem_cons.2 ⟨Meets.at (pre := R) (Φ := F) m16, List.forall_mem_cons.2 ⟨MeetsRow.at (pre := R) (Φ := F) m36, (fun _ h => nomatch h)⟩⟩)) (loops_n 0 lk18_1 fun k hk => by omega) L18_1 (fun ρ => ((ρ.getD 1 default).int - (ρ.getD 2 default).int).toNat) le18_1 fun ρ _ hq => ?_
  obtain ⟨l, p, j, rfl, hj, hm, hp, hok, hr⟩ : prK1 ρ := hq
  by_cases hlt : j < l.length
  · have hd := drop_el hlt
    rw [hd] at hok
    obtain ⟨ok1, ok2⟩ := hok
    obtain ⟨r1, r2⟩ := hr j hlt
    have hX : ∀ q : List (List D), q = (if (cI (el l j) 0 == 1) = true then p ++ [[.i (-1)]] else if (cI (el l j) 0 == 2) = true then rmI p (cI (el l j) 1).toNat else p) → q.length ≤ 1000000 + (j + 1) → q.length = (if (cI (el l j) 0 == 1) = true then p.length + 1 else if (cI (el l j) 0 == 2) = true then p.length - 1 else p.length) →
        RoundOk F (R L18_1.key) (fun ρ => ((ρ.getD 1 default).int - (ρ.getD 2 default).int).toNat) L18_1 [.l l, .i (l.length : Int), .i (j : Int), .l p] [.i (-1), .i ((j : Int) + 1), .l q] := fun q e h1 h2 => by
      refine round_next ⟨⟨l, q, j + 1, rfl, by omega, hm, h1, by rw [h2]; exact ok2, hr⟩, ?_, ?_⟩
      · show ((l.length : Int) - ((j + 1 : Nat) : Int)).toNat < ((l.length : Int) - (j : Int)).toNat
        omega
      · show lpK1 [.l l, .i (l.length : Int), .i ((j + 1 : Nat) : Int), .l q] = lpK1 [.l l, .i (l.length : Int), .i (j : Int), .l p]
        simp only [lpK1, Int.toNat_natCast]
        rw [hd, keptS, ← e]
    have hl : ∀ z : List D, decide (((p ++ [z]).length : Int) ≤ 17592186044416) = true := fun z => decide_eq_true (by simp; omega)
    have er1 : (l.getD j []).getD 1 default = .i (cI (el l j) 1) := r1
    simp (disch := omega) only [rt18_1, VT.ok, Nd.holds, X.outs, X.ds, X.d, Op1.ev, Op2.ev, List.cons_append, List.nil_append, List.getD_cons_zero, List.getD_cons_succ, D.int_i, D.bool_b, D.lst_l, Int.toNat_natCast, implies_true, true_and, takeD1_0, F36, R36, ↓reduceIte, dle_t, dlt_t, w64', hl, er1]
    by_cases k1 : cI (el l j) 0 = 1
    · have b1 : (((l.getD j []).getD 0 default).int == 1) = true := beq_t k1
      have b1' : (cI (el l j) 0 == 1) = true := b1
      rw [if_pos b1]
      exact hX _ (by rw [if_pos b1']) (by simp; omega) (by rw [if_pos b1']; simp)
    · have b1 : (((l.getD j []).getD 0 default).int == 1) = false := beq_f k1
      have b1' : (cI (el l j) 0 == 1) = false := b1
      rw [if_neg (by rw [b1]; decide)]
      by_cases k2 : cI (el l j) 0 = 2
      · have b2 : (((l.getD j []).getD 0 default).int == 2) = true := beq_t k2
        have b2' : (cI (el l j) 0 == 2) = true := b2
        rw [if_pos b2]
        obtain ⟨h0, h1⟩ := ok1 k2
        generalize hn : cI (el l j) 1 = a at *
        obtain ⟨n, rfl⟩ := Int.eq_ofNat_of_zero_le h0
        have hw : IntKind.i64.wrap ((n : Int) + 1) = (n : Int) + 1 := w64 (by omega)
        have hdel : delD [.l p, .i (n : Int), .i (IntKind.i64.wrap ((n : Int) + 1))] = [.l (rmI p n)] := by rw [hw]; rfl
        have hpre : delPre [.l p, .i (n : Int), .i (IntKind.i64.wrap ((n : Int) + 1))] := by rw [hw]; exact ⟨p, n, n + 1, rfl, by omega, by omega⟩
        have hlen := rmI_len' (l := p) (a := n) (by omega)
        simp only [hdel, List.getD_cons_zero]
        refine ⟨fun _ => hpre, ?_⟩
        exact hX _ (by rw [b1', if_neg (by decide), if_pos b2', Int.toNat_natCast]) (by omega) (by rw [b1', if_neg (by decide), if_pos b2', hlen])
      · have b2 : (((l.getD j []).getD 0 default).int == 2) = false := beq_f k2
        have b2' : (cI (el l j) 0 == 2) = false := b2
        rw [if_neg (by rw [b2]; decide)]
        exact hX _ (by rw [b1', b2', if_neg (by decide), if_neg (by decide)]) (by omega) (by rw [b1', b2', if_neg (by decide), if_neg (by decide)])
  · have hj' : j = l.length := by omega
    subst hj'
    simp (disch := omega) only [rt18_1, VT.ok, X.ds, X.d, Op2.ev, List.getD_cons_zero, List.getD_cons_succ, D.int_i, D.bool_b, Bool.false_eq_true, ↓reduceIte, dlt_f]
    refine round_exit (by omega) ?_
    show lpK1 [.l l, .i (l.length : Int), .i (l.length : Int), .l p] = _
    simp only [lpK1, Int.toNat_natCast, List.drop_length]
    rfl
theorem loopM19_1 : LoopMeets Try.prog F (R L19_1.key) L19_1 lb19_1 := by
  refine loop_meets (pre := R) mixed (sgAt_all (P := Try.prog) (pre := R) (Φ := F) (l := sg19) (List.forall_mem_cons.2 ⟨Meets.at (pre := R) (Φ := F) m17, (fun _ h => nomatch h)⟩)) (loops_n 0 lk19_1 fun k hk => by omega) L19_1 (fun ρ => (((ρ.getD 0 default).lst.length : Int) - (ρ.getD 1 default).int).toNat) le19_1 fun ρ _ hq => ?_
  obtain ⟨l, p, j, rfl, hj, hm, hp, hok⟩ : prK1r ρ := hq
  by_cases hlt : j < l.length
  · have hd := drop_el hlt
    rw [hd] at hok
    obtain ⟨ok1, ok2⟩ := hok
    have hX : ∀ q : List (List D), q = (if (cI (el l j) 0 == 1) = true then p ++ [[.i (-1)]] else if (cI (el l j) 0 == 2) = true then rmI p (cI (el l j) 1).toNat else p) → q.length ≤ 1000000 + (j + 1) → q.length = (if (cI (el l j) 0 == 1) = true then p.length + 1 else if (cI (el l j) 0 == 2) = true then p.length - 1 else p.length) →
        RoundOk F (R L19_1.key) (fun ρ => (((ρ.getD 0 default).lst.length : Int) - (ρ.getD 1 default).int).toNat) L19_1 [.l l, .i (j : Int), .l p] [.i (-1), .i ((j : Int) + 1), .l q] := fun q e h1 h2 => by
      refine round_next ⟨⟨l, q, j + 1, rfl, by omega, hm, h1, by rw [h2]; exact ok2⟩, ?_, ?_⟩
      · show ((l.length : Int) - ((j + 1 : Nat) : Int)).toNat < ((l.length : Int) - (j : Int)).toNat
        omega
      · show lpK1r [.l l, .i ((j + 1 : Nat) : Int), .l q] = lpK1r [.l l, .i (j : Int), .l p]
        simp only [lpK1r, Int.toNat_natCast]
        rw [hd, keptS, ← e]
    have hl : ∀ z : List D, decide (((p ++ [z]).length : Int) ≤ 17592186044416) = true := fun z => decide_eq_true (by simp; omega)
    have c0 : decide ((j : Int) < (l.length : Int)) = true := decide_eq_true (by omega)
    have c1 : decide ((0 : Int) ≤ (j : Int)) = true := decide_eq_true (by omega)
    have c2 : IntKind.i64.wrap ((j : Int) + 1) = (j : Int) + 1 := w64 (by omega)
    by_cases k1 : cI (el l j) 0 = 1
    · have b1 : (((l.getD j []).getD 0 default).int == 1) = true := beq_t k1
      have b1' : (cI (el l j) 0 == 1) = true := b1
      simp only [rt19_1, VT.ok, Nd.holds, X.ds, X.d, Op1.ev, Op2.ev, List.nil_append, List.getD_cons_zero, List.getD_cons_succ, D.int_i, D.bool_b, D.lst_l, Int.toNat_natCast, if_true, implies_true, true_and, c0, c1, c2, hl, b1]
      exact hX _ (by rw [if_pos b1']) (by simp; omega) (by rw [if_pos b1']; simp)
    · have b1 : (((l.getD j []).getD 0 default).int == 1) = false := beq_f k1
      have b1' : (cI (el l j) 0 == 1) = false := b1
      by_cases k2 : cI (el l j) 0 = 2
      · have b2 : (((l.getD j []).getD 0 default).int == 2) = true := beq_t k2
        have b2' : (cI (el l j) 0 == 2) = true := b2
        obtain ⟨h0, h1⟩ := ok1 k2
        obtain ⟨n, hn⟩ := Int.eq_ofNat_of_zero_le h0
        have hn' : ((l.getD j []).getD 1 default).int = (n : Int) := hn
        rw [hn] at h1 hX
        have hw : IntKind.i64.wrap ((n : Int) + 1) = (n : Int) + 1 := w64 (by omega)
        have d1 : decide ((0 : Int) ≤ (n : Int)) = true := decide_eq_true (by omega)
        have d2 : decide ((n : Int) ≤ (p.length : Int)) = true := decide_eq_true (by omega)
        have d3 : decide ((0 : Int) ≤ (n : Int) + 1) = true := decide_eq_true (by omega)
        have d4 : decide ((n : Int) + 1 ≤ (p.length : Int)) = true := decide_eq_true (by omega)
        have d5 : decide ((p.length : Int) ≤ (p.length : Int)) = true := decide_eq_true (by omega)
        have ht : ((n : Int) + 1).toNat = n + 1 := by omega
        have z0 : (0 : Int).toNat = 0 := rfl
        have hl5 : decide ((((p.take n).drop 0 : List (List D)).length : Int) ≤ 17592186044416) = true := decide_eq_true (by simp; omega)
        have hl6 : decide ((((p.take n).drop 0 ++ (p.take p.length).drop (n + 1) : List (List D)).length : Int) ≤ 17592186044416) = true := decide_eq_true (by simp; omega)
        have hlen := rmI_len' (l := p) (a := n) (by omega)
        have hrm : (p.take n).drop 0 ++ (p.take p.length).drop (n + 1) = rmI p n := by rw [List.drop_zero, List.take_length]; rfl
        simp only [rt19_1, VT.ok, Nd.holds, X.ds, X.d, Op1.ev, Op2.ev, List.nil_append, List.getD_cons_zero, List.getD_cons_succ, D.int_i, D.bool_b, D.lst_l, Int.toNat_natCast, if_true, Bool.false_eq_true, if_false, implies_true, true_and, c0, c1, c2, b1, b2, hn', hw, d1, d2, d3, d4, d5, ht, z0, hl5, hrm]
        refine ⟨fun _ => decide_eq_true (by omega), ?_⟩
        exact hX _ (by rw [b1', if_neg (by decide), if_pos b2', Int.toNat_natCast]) (by omega) (by rw [b1', if_neg (by decide), if_pos b2', hlen])
      · have b2 : (((l.getD j []).getD 0 default).int == 2) = false := beq_f k2
        have b2' : (cI (el l j) 0 == 2) = false := b2
        simp only [rt19_1, VT.ok, Nd.holds, X.ds, X.d, Op1.ev, Op2.ev, List.nil_append, List.getD_cons_zero, List.getD_cons_succ, D.int_i, D.bool_b, D.lst_l, Int.toNat_natCast, if_true, Bool.false_eq_true, if_false, implies_true, true_and, c0, c1, c2, b1, b2]
        exact hX _ (by rw [b1', b2', if_neg (by decide), if_neg (by decide)]) (by omega) (by rw [b1', b2', if_neg (by decide), if_neg (by decide)])
  · have hj' : j = l.length := by omega
    subst hj'
    simp (disch := omega) only [rt19_1, VT.ok, X.ds, X.d, Op1.ev, Op2.ev, List.getD_cons_zero, List.getD_cons_succ, D.int_i, D.bool_b, D.lst_l, Bool.false_eq_true, ↓reduceIte, dlt_f]
    refine round_exit (by omega) ?_
    show lpK1r [.l l, .i (l.length : Int), .l p] = _
    simp only [lpK1r, Int.toNat_natCast, List.drop_length]
    rfl


/-! ### what runs keep -/
theorem done_kind {x : List D} {k : Int} (h : cI x 0 = k) (g : Gd) : doneG g x = if (k == 1) = true then { g with N := g.N ++ [ndOf x] }
  else if (k == 3) = true then { g with E := g.E ++ [egOf x] }
  else if (k == 4) = true then { g with E := rmI g.E (cI x 1).toNat }
  else if (k == 2) = true then { g with N := rmI g.N (cI x 1).toNat, E := wiE g.E (cI x 1) }
  else if (k == 5) = true then { g with N := g.N.set (cI x 1).toNat (szRow (el g.N (cI x 1).toNat) x) }
  else if (k == 6) = true then { g with N := g.N.set (cI x 1).toNat (lbRow (el g.N (cI x 1).toNat) x) }
  else g := by subst h; rfl
theorem ins_kind {x : List D} {k : Int} (h : cI x 0 = k) (g : Gd) : insB g x = if (k == 1) = true then true
  else if (k == 3) = true then true
  else if (k == 4) = true then decide (0 ≤ cI x 1) && decide (cI x 1 < (g.E.length : Int))
  else decide (0 ≤ cI x 1) && decide (cI x 1 < (g.N.length : Int)) := by subst h; rfl
theorem rmI_el {l : List (List D)} {a i : Nat} (h : a < l.length) : el (rmI l a) i = if i < a then el l i else el l (i + 1) := by
  unfold rmI el
  simp only [List.getD]
  by_cases hi : i < a
  · rw [if_pos hi, List.getElem?_append_left (by simp; omega), List.getElem?_take, if_pos hi]
  · rw [if_neg hi, List.getElem?_append_right (by simp; omega), List.getElem?_drop, List.length_take]
    congr 2
    omega
theorem el_app {l : List (List D)} {z : List D} {i : Nat} : el (l ++ [z]) i = if i < l.length then el l i else if i = l.length then z else [] := by
  unfold el
  simp only [List.getD]
  by_cases h : i < l.length
  · rw [if_pos h, List.getElem?_append_left h]
  · rw [if_neg h, List.getElem?_append_right (by omega)]
    by_cases h2 : i = l.length
    · rw [if_pos h2, h2, Nat.sub_self]; rfl
    · rw [if_neg h2]
      obtain ⟨k, hk⟩ : ∃ k, i - l.length = k + 1 := ⟨i - l.length - 1, by omega⟩
      rw [hk]; rfl
theorem set_el' (N : List (List D)) (a i : Nat) (x : List D) (h : a < N.length) : el (N.set a x) i = if i = a then x else el N i := by
  unfold el
  simp only [List.getD, List.getElem?_set]
  by_cases e : a = i
  · subst e; rw [if_pos rfl, if_pos h, if_pos rfl]; rfl
  · rw [if_neg e, if_neg (Ne.symm e)]
def stepP (p : List (List D)) (x : List D) : List (List D) := if (cI x 0 == 1) = true then p ++ [[.i (-1)]] else if (cI x 0 == 2) = true then rmI p (cI x 1).toNat else p
theorem kept_step {N : List (List D)} {h : Gd} {p : List (List D)} {x : List D} (hk : keptR N h.N p) (hz : (applyG h x).2 = 0) : keptR N (doneG h x).N (stepP p x) ∧ (stepP p x).length = (if (cI x 0 == 1) = true then p.length + 1 else if (cI x 0 == 2) = true then p.length - 1 else p.length) ∧ (cI x 0 = 2 → 0 ≤ cI x 1 ∧ cI x 1 < (p.length : Int)) := by
  obtain ⟨hv, hfit, hin, _, _⟩ := apply_ok hz
  obtain ⟨k1, k2, k3⟩ := hk
  have hset : ∀ (a : Nat) (z : List D), a < h.N.length → cS z 0 = cS (el h.N a) 0 → cI z 4 = cI (el h.N a) 4 → keptR N (h.N.set a z) p := fun a z ha h0 h4 => by
    refine ⟨by rw [List.length_set]; exact k1, fun i hi hq => ?_, k3⟩
    obtain ⟨q1, q2, q3⟩ := k2 i hi hq
    refine ⟨q1, ?_⟩
    rw [set_el' _ _ _ _ ha]
    by_cases e : i = a
    · subst e; rw [if_pos rfl, h0, h4]; exact ⟨q2, q3⟩
    · rw [if_neg e]; exact ⟨q2, q3⟩
  rcases fits_kind hfit with hx | hx | hx | hx | hx | hx
  · rw [ins_kind hx] at hin
    rw [done_kind hx]
    unfold stepP
    rw [hx]
    simp only [beq_self_eq_true, if_true]
    refine ⟨⟨by simp [k1], fun i hi hq => ?_, fun i k hik hk hqi hqk => ?_⟩, by simp, fun h => by omega⟩
    · rw [List.length_append, List.length_singleton] at hi
      rw [el_app] at hq ⊢
      by_cases h1 : i < p.length
      · rw [if_pos h1] at hq ⊢
        rw [el_app, if_pos (by omega)]
        exact k2 i h1 hq
      · rw [if_neg h1, if_pos (by omega)] at hq
        have : (0 : Int) ≤ -1 := hq
        omega
    · rw [List.length_append, List.length_singleton] at hk
      rw [el_app] at hqk
      by_cases h1 : k < p.length
      · rw [if_pos h1] at hqk
        rw [el_app, if_pos (by omega)] at hqi
        rw [el_app, if_pos (by omega), el_app, if_pos h1]
        exact k3 i k hik h1 hqi hqk
      · rw [if_neg h1, if_pos (by omega)] at hqk
        have : (0 : Int) ≤ -1 := hqk
        omega
  · rw [ins_kind hx] at hin
    rw [done_kind hx]
    unfold stepP
    rw [hx]
    simp only [show ((2 : Int) == 1) = false from rfl, show ((2 : Int) == 3) = false from rfl, show ((2 : Int) == 4) = false from rfl, beq_self_eq_true, if_true, Bool.false_eq_true, if_false, Bool.and_eq_true, decide_eq_true_eq] at hin ⊢
    obtain ⟨n, hn⟩ := Int.eq_ofNat_of_zero_le hin.1
    rw [hn] at hin ⊢
    rw [Int.toNat_natCast]
    have hl1 : n < h.N.length := by omega
    have hl2 : n < p.length := by omega
    refine ⟨⟨by rw [rmI_len' hl1, rmI_len' hl2, k1], fun i hi hq => ?_, fun i k hik hk hqi hqk => ?_⟩, rmI_len' hl2, fun _ => by omega⟩
    · rw [rmI_len' hl2] at hi
      rw [rmI_el hl2] at hq ⊢
      rw [rmI_el hl1]
      by_cases h1 : i < n
      · rw [if_pos h1] at hq
        rw [if_pos h1, if_pos h1]
        exact k2 i (by omega) hq
      · rw [if_neg h1] at hq
        rw [if_neg h1, if_neg h1]
        exact k2 (i + 1) (by omega) hq
    · rw [rmI_len' hl2] at hk
      rw [rmI_el hl2] at hqi hqk
      rw [rmI_el hl2, rmI_el hl2]
      by_cases h1 : i < n
      · rw [if_pos h1] at hqi
        by_cases h2 : k < n
        · rw [if_pos h2] at hqk
          rw [if_pos h1, if_pos h2]
          exact k3 i k hik (by omega) hqi hqk
        · rw [if_neg h2] at hqk
          rw [if_pos h1, if_neg h2]
          exact k3 i (k + 1) (by omega) (by omega) hqi hqk
      · rw [if_neg h1] at hqi
        rw [if_neg (by omega)] at hqk
        rw [if_neg h1, if_neg (by omega)]
        exact k3 (i + 1) (k + 1) (by omega) (by omega) hqi hqk
  · rw [done_kind hx]
    unfold stepP
    rw [hx]
    exact ⟨⟨k1, k2, k3⟩, rfl, fun h => by omega⟩
  · rw [done_kind hx]
    unfold stepP
    rw [hx]
    exact ⟨⟨k1, k2, k3⟩, rfl, fun h => by omega⟩
  · rw [ins_kind hx] at hin
    rw [done_kind hx]
    unfold stepP
    rw [hx]
    simp only [show ((5 : Int) == 1) = false from rfl, show ((5 : Int) == 2) = false from rfl, show ((5 : Int) == 3) = false from rfl, show ((5 : Int) == 4) = false from rfl, beq_self_eq_true, if_true, Bool.false_eq_true, if_false, Bool.and_eq_true, decide_eq_true_eq] at hin ⊢
    exact ⟨hset _ _ (by omega) rfl rfl, trivial, fun h => by omega⟩
  · rw [ins_kind hx] at hin
    rw [done_kind hx]
    unfold stepP
    rw [hx]
    simp only [show ((6 : Int) == 1) = false from rfl, show ((6 : Int) == 2) = false from rfl, show ((6 : Int) == 3) = false from rfl, show ((6 : Int) == 4) = false from rfl, show ((6 : Int) == 5) = false from rfl, beq_self_eq_true, if_true, Bool.false_eq_true, if_false, Bool.and_eq_true, decide_eq_true_eq] at hin ⊢
    exact ⟨hset _ _ (by omega) rfl rfl, trivial, fun h => by omega⟩
theorem kept_run {N : List (List D)} : ∀ {l : List (List D)} {h : Gd} {p : List (List D)} {i : Nat}, keptR N h.N p → (runS h l i).2.2 = 0 → keptR N (runS h l i).1.N (keptS p l) ∧ keptOk p.length l
  | [], h, p, i, hk, _ => ⟨hk, trivial⟩
  | x :: xs, h, p, i, hk, hz => by
    unfold runS at hz ⊢
    by_cases h0 : (applyG h x).2 = 0
    · rw [if_pos h0] at hz ⊢
      obtain ⟨_, _, _, _, e⟩ := apply_ok h0
      obtain ⟨s1, s2, s3⟩ := kept_step hk h0
      have e1 : (applyG h x).1 = doneG h x := by rw [e]
      rw [e1] at hz ⊢
      obtain ⟨r1, r2⟩ := kept_run (i := i + 1) s1 hz
      refine ⟨r1, s3, ?_⟩
      rw [← s2]
      exact r2
    · rw [if_neg h0] at hz
      exact absurd hz h0
theorem kept_id (N : List (List D)) : keptR N N (idR N.length) := by
  refine ⟨(idR_len _).symm, fun i hi hq => ?_, fun i k hik hk hqi hqk => ?_⟩
  · rw [idR_len] at hi
    rw [idR_el hi]
    exact ⟨(show (i : Int) < (N.length : Int) by omega), rfl, rfl⟩
  · rw [idR_len] at hk
    rw [idR_el hk, idR_el (by omega)]
    show (i : Int) < (k : Int)
    omega


theorem keptL (g : Gd) (l : List (List D)) : keptD [.s g.nm, .b g.dr, .l g.N, .l g.E, .l g.C, .l l] = [.l (keptG g l).1, .i (keptG g l).2] := rfl
theorem run_ok {g : Gd} {l : List (List D)} (h : (runG g l).2.2 = 0) : validE g = 0 ∧ (runS g l 0).2.2 = 0 ∧ runG g l = ((runS g l 0).1, (l.length : Int), 0) := by
  unfold runG at h ⊢
  by_cases hv : validE g = 0
  · rw [if_pos hv] at h ⊢
    by_cases h0 : (runS g l 0).2.2 = 0
    · rw [if_pos h0]; exact ⟨hv, h0, rfl⟩
    · rw [if_neg h0] at h; exact absurd h h0
  · rw [if_neg hv] at h; simp at h
theorem m18 : Meets Try.prog 18 S18 (R 18) (F 18) := by
  refine meets_of_vt (pre := R) (Φ := F) mixed (sgAt_all (P := Try.prog) (pre := R) (Φ := F) (l := sg18) (List.forall_mem_cons.2 ⟨Meets.at (pre := R) (Φ := F) m16, List.forall_mem_cons.2 ⟨MeetsRow.at (pre := R) (Φ := F) m36, (fun _ h => nomatch h)⟩⟩)) Try.func18 b18 n18 (loops_n 2 k18 fun k hk => match k, hk with | 0, _ => loop_this lf18_0 loopM18_0 | 1, _ => loop_this lf18_1 loopM18_1) e18 fun ds hf hq => ?_
  obtain ⟨g, ds', rfl, h5, _, ⟨_, hN⟩, _⟩ := fitsG hf.flat
  obtain ⟨y, rfl, hy⟩ := fits1 h5
  obtain ⟨l, rfl, hm, hl⟩ := wf_sl hy
  obtain ⟨hq1, hq2⟩ : prKept _ := hq
  have hq2 : l.length ≤ 1000 := hq2
  rw [show F 18 [.s g.nm, .b g.dr, .l g.N, .l g.E, .l g.C, .l l] = _ from keptL g l]
  have hA := runL g l
  have hpA : prRun [.s g.nm, .b g.dr, .l g.N, .l g.E, .l g.C, .l l] := hq1
  unfold keptG
  by_cases hz : (runG g l).2.2 = 0
  · obtain ⟨hv, h0, _⟩ := run_ok hz
    obtain ⟨⟨hn1, _⟩, _⟩ := valid_parts hv
    obtain ⟨_, hok⟩ := kept_run (kept_id g.N) h0
    rw [if_pos hz]
    rw [hz] at hA
    have p0 : prK0 [.i (g.N.length : Int), .i 0, .l []] := ⟨g.N.length, 0, rfl, by omega, by omega⟩
    have p1 : prK1 [.l l, .i (l.length : Int), .i 0, .l (idR g.N.length)] := ⟨l, _, 0, rfl, by omega, hq2, by rw [idR_len]; omega, hok, fun i hi => by
      obtain ⟨x, ds'', he, hx, hb, h6⟩ := fitsX (hl _ (el_mem hi))
      have e0 := fits0 h6
      subst e0
      rw [List.append_nil] at he
      rw [he]
      obtain ⟨k, a, s, t, w, h, c, ps, p, q, r, u, lb, wt, ln, rfl⟩ := hx
      exact ⟨rfl, hb.2⟩⟩
    generalize runG g l = rr at hA
    simp only [vt18, VT.ok, Nd.holds, X.outs, X.ds, X.d, Op1.ev, Op2.ev, takeD_zero, takeD_cons, List.cons_append, List.nil_append, List.getD_cons_zero, List.getD_cons_succ, D.int_i, D.bool_b, D.lst_l, Int.toNat_natCast, Bool.false_eq_true, if_false, F16, R16, F11800, R11800, F11801, R11801, hA, beq_self_eq_true, Bool.not_true, lpK0, lpK1]
    exact ⟨fun _ => hpA, fun _ => p0, fun _ => p1, rfl⟩
  · rw [if_neg hz]
    generalize runG g l = rr at hA hz
    simp only [vt18, VT.ok, Nd.holds, X.outs, X.ds, X.d, Op1.ev, Op2.ev, takeD_zero, takeD_cons, List.cons_append, List.nil_append, List.getD_cons_zero, List.getD_cons_succ, D.int_i, D.bool_b, D.lst_l, if_true, and_true, F16, R16, F11800, R11800, F11801, R11801, hA, beq_f hz, Bool.not_false]
    exact fun _ => hpA
theorem m19 : Meets Try.prog 19 S19 (R 19) (F 19) := by
  refine meets_of_vt (pre := R) (Φ := F) mixed (sgAt_all (P := Try.prog) (pre := R) (Φ := F) (l := sg19) (List.forall_mem_cons.2 ⟨Meets.at (pre := R) (Φ := F) m17, (fun _ h => nomatch h)⟩)) Try.func19 b19 n19 (loops_n 2 k19 fun k hk => match k, hk with | 0, _ => loop_this lf19_0 loopM19_0 | 1, _ => loop_this lf19_1 loopM19_1) e19 fun ds hf hq => ?_
  obtain ⟨g, ds', rfl, h5, _, ⟨_, hN⟩, _⟩ := fitsG hf.flat
  obtain ⟨y, rfl, hy⟩ := fits1 h5
  obtain ⟨l, rfl, hm, hl⟩ := wf_sl hy
  obtain ⟨hq1, hq2⟩ : prKept _ := hq
  have hq2 : l.length ≤ 1000 := hq2
  rw [show F 19 [.s g.nm, .b g.dr, .l g.N, .l g.E, .l g.C, .l l] = _ from keptL g l]
  have hA := runL g l
  unfold keptG
  by_cases hz : (runG g l).2.2 = 0
  · obtain ⟨hv, h0, _⟩ := run_ok hz
    obtain ⟨⟨hn1, _⟩, _⟩ := valid_parts hv
    obtain ⟨_, hok⟩ := kept_run (kept_id g.N) h0
    rw [if_pos hz]
    rw [hz] at hA
    have p0 : prK0r [.i 0, .s g.nm, .b g.dr, .l g.N, .l g.E, .l g.C, .l []] := ⟨_, _, g.N, _, _, 0, rfl, by omega, by omega⟩
    have p1 : prK1r [.l l, .i 0, .l (idR g.N.length)] := ⟨l, _, 0, rfl, by omega, hq2, by rw [idR_len]; omega, hok⟩
    generalize runG g l = rr at hA
    simp only [vt19, VT.ok, Nd.holds, X.outs, X.ds, X.d, Op1.ev, Op2.ev, takeD_zero, takeD_cons, List.cons_append, List.nil_append, List.getD_cons_zero, List.getD_cons_succ, D.int_i, D.bool_b, Bool.false_eq_true, if_false, implies_true, true_and, F17, R17, F11900, R11900, F11901, R11901, hA, beq_self_eq_true, Bool.not_true, lpK0r, lpK1r]
    exact ⟨fun _ => p0, fun _ => p1, rfl⟩
  · rw [if_neg hz]
    generalize runG g l = rr at hA hz
    simp only [vt19, VT.ok, Nd.holds, X.outs, X.ds, X.d, Op1.ev, Op2.ev, takeD_zero, takeD_cons, List.cons_append, List.nil_append, List.getD_cons_zero, List.getD_cons_succ, D.int_i, D.bool_b, if_true, implies_true, and_true, F17, R17, F11900, R11900, F11901, R11901, hA, beq_f hz, Bool.not_false]
theorem loopM7_0 : LoopMeets Try.prog F (R L7_0.key) L7_0 lb7_0 := by
  refine loop_meets (pre := R) mixed (sgAt_all (P := Try.prog) (pre := R) (Φ := F) (l := sg7) (List.forall_mem_cons.2 ⟨Meets.at (pre := R) (Φ := F) m8, List.forall_mem_cons.2 ⟨Meets.at (pre := R) (Φ := F) m9, List.forall_mem_cons.2 ⟨Meets.at (pre := R) (Φ := F) m18, List.forall_mem_cons.2 ⟨Meets.at (pre := R) (Φ := F) m19, List.forall_mem_cons.2 ⟨Meets.at (pre := R) (Φ := F) m20, List.forall_mem_cons.2 ⟨Meets.at (pre := R) (Φ := F) m16, (fun _ h => nomatch h)⟩⟩⟩⟩⟩⟩)) (loops_n 0 lk7_0 fun k hk => by omega) L7_0 (fun ρ => (((ρ.getD 1 default).lst.length : Int) - (ρ.getD 3 default).int).toNat) le7_0 fun ρ _ hq => ?_
  obtain ⟨v, p, z, a, b, N, c, d, e, f, M, g, h, j, rfl, hj, hm, hk, hz, hpi⟩ : prKp ρ := hq
  rw [maxLen_val] at hm
  by_cases hlt : j < p.length
  · have hd := drop_el hlt
    have hX : ∀ y : Int, y = (if cI (el p j) 0 < 0 then z else cI (el p j) 0) → ∀ dy, dy = D.i y → RoundOk F (R L7_0.key) (fun ρ => (((ρ.getD 1 default).lst.length : Int) - (ρ.getD 3 default).int).toNat) L7_0 [v, .l p, .i z, .i (j : Int), a, b, .l N, c, d, e, f, .l M, g, h] [.i (-1), v, dy, .i ((j : Int) + 1)] := fun y ey dy edy => by
      subst edy
      refine round_next ⟨⟨v, p, y, a, b, N, c, d, e, f, M, g, h, j + 1, rfl, by omega, by rw [maxLen_val]; omega, hk, fun k hk1 hk2 hk3 => ?_, hpi⟩, ?_, ?_⟩
      · rw [ey]
        split
        · exact hz k (by omega) hk2 hk3
        · exact hk.2.2 j k (by omega) hk2 (by omega) hk3
      · show ((p.length : Int) - ((j + 1 : Nat) : Int)).toNat < ((p.length : Int) - (j : Int)).toNat
        omega
      · show lpKp [v, .l p, .i y, .i ((j + 1 : Nat) : Int), a, b, .l N, c, d, e, f, .l M, g, h] = lpKp [v, .l p, .i z, .i (j : Int), a, b, .l N, c, d, e, f, .l M, g, h]
        simp only [lpKp, Int.toNat_natCast]
        rw [hd, lastP, ← ey]
    have c0 : decide ((j : Int) < (p.length : Int)) = true := decide_eq_true (by omega)
    have c1 : decide ((0 : Int) ≤ (j : Int)) = true := decide_eq_true (by omega)
    have c2 : IntKind.i64.wrap ((j : Int) + 1) = (j : Int) + 1 := w64 (by omega)
    have hpj := hpi j hlt
    by_cases hneg : cI (el p j) 0 < 0
    · have c3 : decide (((p.getD j []).getD 0 default).int < 0) = true := decide_eq_true hneg
      simp only [rt7_0, VT.ok, Nd.holds, X.ds, X.d, Op1.ev, Op2.ev, List.getD_cons_zero, List.getD_cons_succ, D.int_i, D.bool_b, D.lst_l, ite_b, ite_or, Int.toNat_natCast, if_true, implies_true, true_and, c0, c1, c2, c3]
      exact hX z (by rw [if_pos hneg]) _ rfl
    · have c3 : decide (((p.getD j []).getD 0 default).int < 0) = false := decide_eq_false hneg
      obtain ⟨q1, q2, q3⟩ := hk.2.1 j hlt (by omega)
      have hzj := hz j (Nat.le_refl _) hlt (by omega)
      obtain ⟨n, hn⟩ := Int.eq_ofNat_of_zero_le (show 0 ≤ cI (el p j) 0 by omega)
      have hn' : ((p.getD j []).getD 0 default).int = (n : Int) := hn
      rw [hn] at q1 q2 q3 hzj
      rw [Int.toNat_natCast] at q2 q3
      have c4 : decide ((n : Int) ≤ z) = false := decide_eq_false (by omega)
      have c5 : decide ((j : Int) < (M.length : Int)) = true := decide_eq_true (by rw [hk.1]; omega)
      have c6 : decide ((0 : Int) ≤ (n : Int)) = true := decide_eq_true (by omega)
      have c7 : decide ((n : Int) < (N.length : Int)) = true := decide_eq_true (by omega)
      have c8 : (((M.getD j []).getD 0 default).str == ((N.getD n []).getD 0 default).str) = true := by
        have q2 : ((M.getD j []).getD 0 default).str = ((N.getD n []).getD 0 default).str := q2
        rw [q2]; exact beq_self_eq_true _
      have c9 : (((M.getD j []).getD 4 default).int == ((N.getD n []).getD 4 default).int) = true := by
        exact beq_t q3
      have c10 : decide ((n : Int) < 0) = false := decide_eq_false (by omega)
      simp only [rt7_0, VT.ok, Nd.holds, X.ds, X.d, Op1.ev, Op2.ev, List.getD_cons_zero, List.getD_cons_succ, D.int_i, D.bool_b, D.lst_l, Int.toNat_natCast, if_true, Bool.false_eq_true, if_false, implies_true, true_and, c0, c1, c2, hn', c4, c5, c6, c7, c8, c9, c10, Int.toNat_natCast, Bool.not_true]
      exact hX n (by rw [if_neg hneg, hn]) _ (by rw [← hn]; exact hpj)
  · have hj' : j = p.length := by omega
    subst hj'
    simp (disch := omega) only [rt7_0, VT.ok, X.ds, X.d, Op1.ev, Op2.ev, List.getD_cons_zero, List.getD_cons_succ, D.int_i, D.bool_b, D.lst_l, Bool.false_eq_true, ↓reduceIte, dlt_f]
    refine round_exit (by omega) ?_
    show lpKp [v, .l p, .i z, .i (p.length : Int), a, b, .l N, c, d, e, f, .l M, g, h] = _
    simp only [lpKp, Int.toNat_natCast, List.drop_length]
    rfl


def rowsI (p : List (List D)) : Prop := ∀ x ∈ p, ∃ n : Int, x = [.i n]
theorem rowsI_id (n : Nat) : rowsI (idR n) := by
  intro x hx
  simp only [idR, List.mem_map] at hx
  obtain ⟨k, _, rfl⟩ := hx
  exact ⟨_, rfl⟩
theorem rowsI_kept : ∀ {l p : List (List D)}, rowsI p → rowsI (keptS p l)
  | [], p, h => h
  | x :: xs, p, h => by
    refine rowsI_kept (l := xs) ?_
    split
    · intro y hy
      rcases List.mem_append.1 hy with hy | hy
      · exact h y hy
      · simp only [List.mem_singleton] at hy; exact ⟨-1, hy⟩
    · split
      · intro y hy
        rcases List.mem_append.1 hy with hy | hy
        · exact h y (List.mem_of_mem_take hy)
        · exact h y (List.mem_of_mem_drop hy)
      · exact h
theorem rowsI_get {p : List (List D)} (h : rowsI p) {i : Nat} (hi : i < p.length) : gc (el p i) 0 = .i (cI (el p i) 0) := by
  obtain ⟨n, hn⟩ := h _ (el_mem hi)
  rw [hn]; rfl
theorem kept_len {p : List (List D)} : ∀ {l : List (List D)}, (keptS p l).length ≤ p.length + l.length
  | [] => by simp [keptS]
  | x :: xs => by
    have h := kept_len (p := if (cI x 0 == 1) = true then p ++ [[.i (-1)]] else if (cI x 0 == 2) = true then rmI p (cI x 1).toNat else p) (l := xs)
    rw [keptS, List.length_cons]
    refine Nat.le_trans h ?_
    split
    · simp; omega
    · split
      · have := rmI_len p (cI x 1).toNat; omega
      · omega
theorem law7 : Meets Try.prog 7 S7 (fun _ => True) (fun _ => [.b true]) := by
  refine meets_of_vt (pre := R) (Φ := F) mixed (sgAt_all (P := Try.prog) (pre := R) (Φ := F) (l := sg7) (List.forall_mem_cons.2 ⟨Meets.at (pre := R) (Φ := F) m8, List.forall_mem_cons.2 ⟨Meets.at (pre := R) (Φ := F) m9, List.forall_mem_cons.2 ⟨Meets.at (pre := R) (Φ := F) m18, List.forall_mem_cons.2 ⟨Meets.at (pre := R) (Φ := F) m19, List.forall_mem_cons.2 ⟨Meets.at (pre := R) (Φ := F) m20, List.forall_mem_cons.2 ⟨Meets.at (pre := R) (Φ := F) m16, (fun _ h => nomatch h)⟩⟩⟩⟩⟩⟩)) Try.func7 b7 n7 (loops_n 1 k7 fun k hk => match k, hk with | 0, _ => loop_this lf7_0 loopM7_0) e7 fun ds hf _ => ?_
  obtain ⟨g, ds', rfl, h5, _, _⟩ := fitsG hf.flat
  obtain ⟨y, rfl, hy⟩ := fits1 h5
  obtain ⟨l, rfl, hm, _⟩ := wf_sl hy
  have hA := runL g l
  have hK := keptL g l
  have hfw := fewLx g l
  cases hb : fewB g l with
  | true =>
    rw [hb] at hfw
    obtain ⟨hps1, hps⟩ := few_ports hb
    have hpA : prRun [.s g.nm, .b g.dr, .l g.N, .l g.E, .l g.C, .l l] := fun i hi => by
      have : (cL (el l i) 7).length ≤ 20 := hps i hi
      show (cL (el l i) 7).length ≤ 1000000
      omega
    have hpK : prKept [.s g.nm, .b g.dr, .l g.N, .l g.E, .l g.C, .l l] := ⟨hpA, by show l.length ≤ 1000; omega⟩
    have hsl : ∀ q, eqFn sameI1 [.l q, .l q] = [.b true] := fun q => by
      show [D.b (eqR sameI1 q q)] = _
      rw [eqR_refl (fun x => by simp [sameI1])]
    by_cases hz : (runG g l).2.2 = 0
    · obtain ⟨hv, h0, he⟩ := run_ok hz
      obtain ⟨⟨hn1, _⟩, _⟩ := valid_parts hv
      obtain ⟨hkr, _⟩ := kept_run (kept_id g.N) h0
      have hke : keptG g l = (keptS (idR g.N.length) l, 0) := by unfold keptG; rw [if_pos hz]
      rw [hke] at hK
      rw [he] at hA
      have hri := rowsI_kept (l := l) (rowsI_id g.N.length)
      have hkl := kept_len (p := idR g.N.length) (l := l)
      rw [idR_len] at hkl
      generalize (runS g l 0).1 = h at hkr hA
      generalize keptS (idR g.N.length) l = p at hkr hK hri hkl
      have p0 : prKp [.b false, .l p, .i (-1), .i 0, .s g.nm, .b g.dr, .l g.N, .l g.E, .l g.C, .s h.nm, .b h.dr, .l h.N, .l h.E, .l h.C] := ⟨_, p, -1, _, _, g.N, _, _, _, _, h.N, _, _, 0, rfl, by omega, by rw [maxLen_val]; omega, hkr, fun k _ _ hk => by omega, fun i hi => rowsI_get hri hi⟩
      have c1 : ((h.N.length : Int) == (p.length : Int)) = true := by rw [hkr.1]; simp
      simp only [vt7, VT.ok, Nd.holds, X.outs, X.ds, X.d, Op1.ev, Op2.ev, takeD_zero, takeD_cons, List.cons_append, List.nil_append, List.getD_cons_zero, List.getD_cons_succ, D.int_i, D.bool_b, D.lst_l, if_true, Bool.false_eq_true, if_false, implies_true, true_and, and_true, F16, R16, F18, R18, F19, R19, F20, R20, F8, R8, F9, R9, F10700, R10700, hfw, hA, hK, hsl, c1, beq_self_eq_true, Bool.not_true, one, lpKp, Bool.false_eq_true, if_false]
      exact ⟨fun _ => hpK, fun _ => hpK, fun _ => hpA, fun _ => p0, trivial⟩
    · have hke : keptG g l = ([], (runG g l).2.2) := by unfold keptG; rw [if_neg hz]
      rw [hke] at hK
      generalize runG g l = rr at hA hK hz
      simp only [vt7, VT.ok, Nd.holds, X.outs, X.ds, X.d, Op1.ev, Op2.ev, takeD_zero, takeD_cons, List.cons_append, List.nil_append, List.getD_cons_zero, List.getD_cons_succ, D.int_i, D.bool_b, D.lst_l, if_true, Bool.false_eq_true, if_false, implies_true, true_and, and_true, F16, R16, F18, R18, F19, R19, F20, R20, F8, R8, F9, R9, F10700, R10700, hfw, hA, hK, hsl, beq_f hz, beq_self_eq_true, Bool.not_true, Bool.not_false, one, Bool.false_eq_true, if_false]
      exact ⟨fun _ => hpK, fun _ => hpK, fun _ => hpA⟩
  | false =>
    rw [hb] at hfw
    simp only [vt7, VT.ok, Nd.holds, X.outs, X.ds, X.d, Op1.ev, Op2.ev, takeD_zero, takeD_cons, List.cons_append, List.nil_append, List.getD_cons_zero, List.getD_cons_succ, D.int_i, D.bool_b, ite_b, ite_or, if_true, implies_true, true_and, and_true, F16, R16, F18, R18, F19, R19, F20, R20, F8, R8, F9, R9, F10700, R10700, hfw, Bool.not_false, one]
end Go.Proofs.Ythnilbkkihmpoaa.rv
