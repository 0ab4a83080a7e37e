/-
  Items.
-/
import Derived.Test.YtpnfcopgmeggoaaRvSc4
namespace Go.Proofs.Ytpnfcopgmeggoaa.rv
open Go.RV

theorem fits8 {c0 c1 c2 c3 c4 c5 c6 c7 : CT} {ds : List D} (h : FitsF [c0, c1, c2, c3, c4, c5, c6, c7] ds) : ∃ a b c d e f g i, ds = [a, b, c, d, e, f, g, i] ∧ Wf c0 a ∧ Wf c1 b ∧ Wf c2 c ∧ Wf c3 d ∧ Wf c4 e ∧ Wf c5 f ∧ Wf c6 g ∧ Wf c7 i := by
  match ds, h with
  | [a, b, c, d, e, f, g, i], ⟨h0, h1, h2, h3, h4, h5, h6, h7, _⟩ => exact ⟨a, b, c, d, e, f, g, i, rfl, h0, h1, h2, h3, h4, h5, h6, h7⟩
theorem fitsIt {s : TypeId} {ds : List D} (h : FitsF [.int .i64, .int .i64, .int .i64, .int .i64, .int .i64, .int .i64, .sl s [.int .i64, .int .i64], .str] ds) :
    ∃ (k o a b c d : Int) (l : List (List D)) (t : ByteArray), ds = [.i k, .i o, .i a, .i b, .i c, .i d, .l l, .s t] ∧ l.length ≤ maxLen ∧ t.size ≤ maxLen := by
  obtain ⟨a, b, c, d, e, f, g, i, rfl, h0, h1, h2, h3, h4, h5, h6, h7⟩ := fits8 h
  obtain ⟨_, rfl, _⟩ := wf_i64 h0
  obtain ⟨_, rfl, _⟩ := wf_i64 h1
  obtain ⟨_, rfl, _⟩ := wf_i64 h2
  obtain ⟨_, rfl, _⟩ := wf_i64 h3
  obtain ⟨_, rfl, _⟩ := wf_i64 h4
  obtain ⟨_, rfl, _⟩ := wf_i64 h5
  obtain ⟨_, rfl, hl, _⟩ := wf_sl h6
  obtain ⟨_, rfl, ht⟩ := wf_str h7
  exact ⟨_, _, _, _, _, _, _, _, rfl, hl, ht⟩
/-- an item, cell by cell -/
abbrev itm (k o a b c d : Int) (l : List (List D)) (t : ByteArray) : List D := [.i k, .i o, .i a, .i b, .i c, .i d, .l l, .s t]
theorem kn_itm (k o a b c d : Int) (l : List (List D)) (t : ByteArray) : knB (itm k o a b c d l t) = (decide (1 ≤ k) && decide (k ≤ 4)) := rfl
theorem used_itm (k o a b c d : Int) (l : List (List D)) (t : ByteArray) : usedB (itm k o a b c d l t) = (!(!(k == 4) && !(t == ⟨#[]⟩)) && (if k = 3 then ((a == 0) && ((b == 0) && ((c == 0) && (d == 0)))) else (l.length : Int) == 0)) := rfl
theorem shp_itm (k o a b c d : Int) (l : List (List D)) (t : ByteArray) : shpB (itm k o a b c d l t) = if k = 3 then pathB l else bxB a b c d := rfl
theorem e_itm (k o a b c d : Int) (l : List (List D)) (t : ByteArray) : itemE (itm k o a b c d l t) = if (knB (itm k o a b c d l t) && usedB (itm k o a b c d l t) && !decide (o < 0)) = true then
    (if shpB (itm k o a b c d l t) = true then (if (plainB t && !decide (32 < (t.size : Int))) = true then 0 else 7) else 3) else 1 := rfl
theorem plain_nil : plainB ⟨#[]⟩ = true := rfl
/-- texts of other items than texts are empty -/
theorem used_text {k o a b c d : Int} {l : List (List D)} {t : ByteArray} (h : usedB (itm k o a b c d l t) = true) (h4 : k ≠ 4) : t = ⟨#[]⟩ := by
  rw [used_itm, Bool.and_eq_true] at h
  have := h.1
  rw [beq_f h4] at this
  simpa using this
theorem fn61_eq (a b c d e f g h : D) : fn61 [a, b, c, d, e, f, g, h] = [.b (decide (1 ≤ a.int) && decide (a.int ≤ 4))] := by
  simp only [fn61, vt61, VT.val, X.ds, X.d, Op2.ev, List.getD_cons_zero, D.int_i, D.bool_b, ite_b, ite_and]
theorem fn86_eq (a b c d : D) : fn86 [a, b, c, d] = [a, b, c, d, .b (bxB a.int b.int c.int d.int)] := by
  simp only [fn86, vt86, VT.val, X.outs, X.ds, X.d, takeD_zero, takeD_cons, List.cons_append, List.nil_append, List.getD_cons_zero, List.getD_cons_succ, show T86 35 = fn35 from rfl, fn35_eq]
theorem m85 : Meets Try.prog 85 S85 (R 85) (F 85) := by
  refine meets_of_vt (pre := R) (Φ := F) mixed (sgAt_all (P := Try.prog) (pre := R) (Φ := F) (l := sg85) (List.forall_mem_cons.2 ⟨Meets.at (pre := R) (Φ := F) m36, List.forall_mem_cons.2 ⟨Meets.at (pre := R) (Φ := F) m22, (fun _ h => nomatch h)⟩⟩)) Try.func85 b85 n85 (loops_n 0 k85 fun k hk => by omega) e85 fun ds hf _ => ?_
  obtain ⟨x, rfl, hx⟩ := fits1 hf.flat
  simp only [vt85, VT.ok, Nd.holds, X.outs, X.ds, X.d, takeD_zero, takeD_cons, List.cons_append, List.nil_append, List.getD_cons_zero, List.getD_cons_succ, D.bool_b, implies_true, and_true, F22, R22, F36, R36, F85, bndD, pathD, extL, dQ]
theorem m62 : Meets Try.prog 62 S62 (R 62) (F 62) := by
  refine meets_of_vt (pre := R) (Φ := F) mixed (sgAt_all (P := Try.prog) (pre := R) (Φ := F) (l := sg62) (List.forall_mem_cons.2 ⟨Meets.at (pre := R) (Φ := F) m63, (fun _ h => nomatch h)⟩)) Try.func62 b62 n62 (loops_n 0 k62 fun k hk => by omega) e62 fun ds hf _ => ?_
  obtain ⟨k, o, a, b, c, d, l, t, rfl, _, _⟩ := fitsIt hf.flat
  rw [show F 62 = usedD from rfl, show usedD [.i k, .i o, .i a, .i b, .i c, .i d, .l l, .s t] = [.b (usedB (itm k o a b c d l t))] from rfl, used_itm]
  by_cases h4 : k = 4
  · subst h4
    simp (disch := omega) only [vt62, VT.ok, Nd.holds, X.outs, X.ds, X.d, Op1.ev, Op2.ev, takeD_zero, takeD_cons, List.cons_append, List.nil_append, List.getD_cons_zero, List.getD_cons_succ, D.int_i, D.bool_b, D.lst_l, Bool.false_eq_true, implies_true, true_and, false_implies, F63, R63, ↓reduceIte, beq_t, beq_f, fn63, vt63, VT.val, D.isT, beq_self_eq_true, Bool.not_false, Bool.not_true, Bool.false_and, Bool.true_and, Nat.reduceBEq]
    exact ⟨by intros; exact ⟨_, _, rfl⟩, rfl⟩
  · cases ht : (t == ⟨#[]⟩)
    · simp (disch := omega) only [vt62, VT.ok, X.ds, X.d, Op1.ev, Op2.ev, List.getD_cons_zero, List.getD_cons_succ, D.int_i, D.bool_b, D.str_s, ↓reduceIte, beq_f, ht, Bool.not_false, Bool.not_true, Bool.false_and, Bool.and_self]
    · by_cases hk : k = 3
      · subst hk
        simp (disch := omega) only [vt62, VT.ok, Nd.holds, X.outs, X.ds, X.d, Op1.ev, Op2.ev, takeD_zero, takeD_cons, List.cons_append, List.nil_append, List.getD_cons_zero, List.getD_cons_succ, D.int_i, D.bool_b, D.str_s, ite_b, ite_and, Bool.false_eq_true, implies_true, true_and, and_true, F63, R63, ↓reduceIte, beq_f, ht, fn63, vt63, VT.val, D.isT, beq_self_eq_true, Bool.not_false, Bool.not_true, Bool.and_false, Bool.true_and]
        intros; exact ⟨_, _, rfl⟩
      · simp (disch := omega) only [vt62, VT.ok, Nd.holds, X.outs, X.ds, X.d, Op1.ev, Op2.ev, takeD_zero, takeD_cons, List.cons_append, List.nil_append, List.getD_cons_zero, List.getD_cons_succ, D.int_i, D.bool_b, D.lst_l, D.str_s, Bool.false_eq_true, implies_true, true_and, and_true, false_implies, F63, R63, ↓reduceIte, beq_t, beq_f, ht, fn63, vt63, VT.val, D.isT, beq_self_eq_true, Bool.not_false, Bool.not_true, Bool.and_false, Bool.true_and, if_neg hk, Nat.reduceBEq]
        intros; exact ⟨_, _, rfl⟩
theorem m51 : Meets Try.prog 51 S51 (R 51) (F 51) := by
  refine meets_of_vt (pre := R) (Φ := F) mixed (sgAt_all (P := Try.prog) (pre := R) (Φ := F) (l := sg51) (List.forall_mem_cons.2 ⟨Meets.at (pre := R) (Φ := F) m61, List.forall_mem_cons.2 ⟨Meets.at (pre := R) (Φ := F) m62, List.forall_mem_cons.2 ⟨Meets.at (pre := R) (Φ := F) m63, List.forall_mem_cons.2 ⟨Meets.at (pre := R) (Φ := F) m85, List.forall_mem_cons.2 ⟨Meets.at (pre := R) (Φ := F) m86, List.forall_mem_cons.2 ⟨Meets.at (pre := R) (Φ := F) m64, (fun _ h => nomatch h)⟩⟩⟩⟩⟩⟩)) Try.func51 b51 n51 (loops_n 0 k51 fun k hk => by omega) e51 fun ds hf _ => ?_
  obtain ⟨k, o, a, b, c, d, l, t, rfl, hl, ht⟩ := fitsIt hf.flat
  rw [show F 51 = itmD from rfl, show itmD [.i k, .i o, .i a, .i b, .i c, .i d, .l l, .s t] = [.i (itemE (itm k o a b c d l t))] from rfl]
  obtain ⟨u, hu⟩ : ∃ u, usedB (itm k o a b c d l t) = u := ⟨_, rfl⟩
  have hu0 : usedD [.i k, .i o, .i a, .i b, .i c, .i d, .l l, .s t] = [.b u] := by rw [← hu]; rfl
  cases h1 : (knB (itm k o a b c d l t) && usedB (itm k o a b c d l t) && !decide (o < 0))
  · have hc : ((!(decide (1 ≤ k) && decide (k ≤ 4)) || !u) || decide (o < 0)) = true := by
      rw [kn_itm k o a b c d l t, hu] at h1
      cases h2 : (decide (1 ≤ k) && decide (k ≤ 4)) <;> cases u <;> cases h4 : decide (o < 0) <;> first | rfl | (rw [h2, h4] at h1; cases h1)
    rw [e_itm, h1]
    simp only [vt51, VT.ok, Nd.holds, X.outs, X.ds, X.d, Op1.ev, Op2.ev, takeD_zero, takeD_cons, List.cons_append, List.nil_append, List.getD_cons_zero, List.getD_cons_succ, D.int_i, D.bool_b, D.str_s, ite_b, ite_or, ite_and, Bool.false_eq_true, if_false, implies_true, true_and, takeD1_0, F63, R63, F64, R64, F61, R61, F62, R62, F85, R85, F86, R86, fn61_eq, hu0]
    show if ((!(decide (1 ≤ k) && decide (k ≤ 4)) || !u) || decide (o < 0)) = true then _ else _
    rw [if_pos hc]; trivial
  · rw [e_itm, h1, if_pos rfl]
    simp only [Bool.and_eq_true, Bool.not_eq_true'] at h1
    obtain ⟨⟨h2, h3⟩, h4⟩ := h1
    have hut : u = true := by rw [← hu]; exact h3
    subst hut
    rw [kn_itm] at h2
    rw [shp_itm]
    by_cases hk : k = 3
    · have htx := used_text h3 (by omega)
      subst hk htx
      simp (disch := omega) only [vt51, VT.ok, Nd.holds, X.outs, X.ds, X.d, Op1.ev, Op2.ev, takeD_zero, takeD_cons, List.cons_append, List.nil_append, List.getD_cons_zero, List.getD_cons_succ, D.int_i, D.bool_b, ite_b, ite_and, Bool.false_eq_true, implies_true, true_and, false_implies, F63, R63, F64, R64, F61, R61, F62, R62, F85, R85, R86, ↓reduceIte, beq_f, fn61_eq, hu0, h4, fn63, vt63, VT.val, D.isT, beq_self_eq_true, Bool.not_true, Nat.reduceBEq, D.ptd, extL]
      refine ⟨by intros; exact ⟨_, _, rfl⟩, ?_⟩
      show if (!pathB l) = true then _ else _
      cases pathB l <;> rfl
    · simp (disch := omega) only [vt51, VT.ok, Nd.holds, X.outs, X.ds, X.d, Op1.ev, Op2.ev, takeD_zero, takeD_cons, List.cons_append, List.nil_append, List.getD_cons_zero, List.getD_cons_succ, D.int_i, D.bool_b, D.str_s, ite_b, ite_or, ite_and, Bool.false_eq_true, implies_true, true_and, false_implies, F63, R63, F64, R64, F61, R61, F62, R62, R85, F86, R86, ↓reduceIte, beq_f, fn61_eq, hu0, h4, fn63, vt63, VT.val, D.isT, beq_self_eq_true, Bool.not_true, Nat.reduceBEq, D.ptd, fn86_eq, if_neg hk, plainD, cS]
      show if ((!(decide (1 ≤ k) && decide (k ≤ 4)) && true) && true) = true then _ else _
      rw [h2, if_neg (by decide)]
      refine ⟨by intros; exact ⟨_, _, rfl⟩, ?_⟩
      show if (!bxB a b c d) = true then _ else _
      cases hb : bxB a b c d
      · rfl
      · by_cases h4 : k = 4
        · simp only [beq_t h4, Bool.true_and]
          cases plainB t <;> cases decide (32 < (t.size : Int)) <;> rfl
        · have htx := used_text h3 h4
          subst htx
          simp only [beq_f h4, Bool.false_and]
          rfl
theorem loopM33_0 : LoopMeets Try.prog F (R L33_0.key) L33_0 lb33_0 := by
  refine loop_meets (pre := R) mixed (sgAt_all (P := Try.prog) (pre := R) (Φ := F) (l := sg33) (List.forall_mem_cons.2 ⟨Meets.at (pre := R) (Φ := F) m21, List.forall_mem_cons.2 ⟨Meets.at (pre := R) (Φ := F) m55, (fun _ h => nomatch h)⟩⟩)) (loops_n 0 lk33_0 fun k hk => by omega) L33_0 (fun ρ => (((ρ.getD 9 default).str.size : Int) - (ρ.getD 1 default).int).toNat) le33_0 fun ρ _ hq => ?_
  obtain ⟨v, a, b, c, d, e, f, g, s, j, rfl, hj, hm⟩ : prIt ρ := hq
  rw [maxLen_val] at hm
  by_cases hlt : j < s.size
  · simp (disch := omega) only [rt33_0, VT.ok, Nd.holds, X.ds, X.d, Op1.ev, Op2.ev, List.getD_cons_zero, List.getD_cons_succ, D.int_i, D.bool_b, D.str_s, ite_b, ite_or, Int.toNat_natCast, implies_true, true_and, ↓reduceIte, dle_t, dlt_t, w64']
    show if lblP s j = true then _ else _
    cases hb : lblP s j
    · simp only [Bool.false_eq_true, if_false]
      refine round_next ⟨⟨v, a, b, c, d, e, f, g, s, j + 1, rfl, by omega, hm⟩, ?_, ?_⟩
      · show ((s.size : Int) - ((j + 1 : Nat) : Int)).toNat < ((s.size : Int) - (j : Int)).toNat
        omega
      · show lpIt [v, .i ((j + 1 : Nat) : Int), a, b, c, d, e, f, g, .s s] = lpIt [v, .i (j : Int), a, b, c, d, e, f, g, .s s]
        simp only [lpIt, Int.toNat_natCast]
        exact scan_next hlt hb
    · simp only [if_true]
      refine round_exit (by omega) ?_
      show lpIt [v, .i (j : Int), a, b, c, d, e, f, g, .s s] = _
      simp only [lpIt, Int.toNat_natCast]
      exact scan_hit hlt hb
  · have hj' : j = s.size := by omega
    subst hj'
    simp (disch := omega) only [rt33_0, VT.ok, X.ds, X.d, Op1.ev, Op2.ev, List.getD_cons_zero, List.getD_cons_succ, D.int_i, D.bool_b, D.str_s, Bool.false_eq_true, ↓reduceIte, dlt_f]
    refine round_exit (by omega) ?_
    show lpIt [v, .i (s.size : Int), a, b, c, d, e, f, g, .s s] = _
    simp only [lpIt, Int.toNat_natCast]
    exact scan_end
theorem m33 : Meets Try.prog 33 S33 (R 33) (F 33) := by
  refine meets_of_vt (pre := R) (Φ := F) mixed (sgAt_all (P := Try.prog) (pre := R) (Φ := F) (l := sg33) (List.forall_mem_cons.2 ⟨Meets.at (pre := R) (Φ := F) m21, List.forall_mem_cons.2 ⟨Meets.at (pre := R) (Φ := F) m55, (fun _ h => nomatch h)⟩⟩)) Try.func33 b33 n33 (loops_n 1 k33 fun k hk => match k, hk with | 0, _ => loop_this lf33_0 loopM33_0) e33 fun ds hf _ => ?_
  obtain ⟨k, o, a, b, c, d, l, t, rfl, hl, ht⟩ := fitsIt hf.flat
  rw [show F 33 = itmD from rfl, show itmD [.i k, .i o, .i a, .i b, .i c, .i d, .l l, .s t] = [.i (itemE (itm k o a b c d l t))] from rfl]
  have hpre : prIt [.i 0, .i 0, .i k, .i o, .i a, .i b, .i c, .i d, .l l, .s t] := ⟨_, _, _, _, _, _, _, _, t, 0, rfl, by omega, ht⟩
  rw [e_itm, kn_itm, shp_itm]
  by_cases h1 : (1 ≤ k ∧ k ≤ 4) ∧ 0 ≤ o
  · have hu : ((((k == 3) && !((a == 0) && ((b == 0) && ((c == 0) && (d == 0))))) || (!(k == 3) && decide (0 < (l.length : Int)))) || (!(k == 4) && !(t == ⟨#[]⟩))) = !usedB (itm k o a b c d l t) := by
      rw [used_itm]
      have hp : decide (0 < (l.length : Int)) = !((l.length : Int) == 0) := by
        by_cases h : (l.length : Int) = 0
        · rw [beq_t h, decide_eq_false (by omega)]; rfl
        · rw [beq_f h, decide_eq_true (by omega)]; rfl
      by_cases hk : k = 3
      · rw [if_pos hk, beq_t hk, hp]
        cases ((a == 0) && ((b == 0) && ((c == 0) && (d == 0)))) <;> cases (!(k == 4) && !(t == ⟨#[]⟩)) <;> cases ((l.length : Int) == 0) <;> rfl
      · rw [if_neg hk, beq_f hk, hp]
        cases ((a == 0) && ((b == 0) && ((c == 0) && (d == 0)))) <;> cases (!(k == 4) && !(t == ⟨#[]⟩)) <;> cases ((l.length : Int) == 0) <;> rfl
    have ek : (decide (1 ≤ k) && decide (k ≤ 4)) = true := by rw [decide_eq_true h1.1.1, decide_eq_true h1.1.2]; rfl
    have eo : decide (o < 0) = false := decide_eq_false (by omega)
    rw [ek, eo]
    cases hub : usedB (itm k o a b c d l t)
    · rw [hub] at hu
      simp (disch := omega) only [vt33, VT.ok, X.ds, X.d, Op1.ev, Op2.ev, List.getD_cons_zero, List.getD_cons_succ, D.int_i, D.bool_b, D.lst_l, D.str_s, ite_b, ite_or, ite_and, Bool.false_eq_true, ↓reduceIte, dlt_f, hu, Bool.not_false, Bool.true_and, Bool.false_and]
    · rw [hub] at hu
      simp only [Bool.true_and, Bool.not_false, if_true]
      have hub' := hub
      rw [used_itm, Bool.and_eq_true] at hub'
      by_cases hk : k = 3
      · have htx := used_text hub (by omega)
        rw [if_pos hk] at hub'
        have hz := hub'.2
        subst hk htx
        cases hp : pathB l
        · simp (disch := omega) only [vt33, VT.ok, Nd.holds, X.outs, X.ds, X.d, Op1.ev, Op2.ev, takeD_zero, takeD_cons, List.cons_append, List.nil_append, List.getD_cons_zero, List.getD_cons_succ, D.int_i, D.bool_b, D.lst_l, D.str_s, ite_b, ite_and, Bool.false_eq_true, implies_true, and_true, F55, R55, F21, R21, ↓reduceIte, dlt_f, beq_f, hz, hp, beq_self_eq_true, Bool.not_true, Bool.not_false, fn55_eq, pathD, cL]
        · simp (disch := omega) only [vt33, VT.ok, Nd.holds, X.outs, X.ds, X.d, Op1.ev, Op2.ev, takeD_zero, takeD_cons, List.cons_append, List.nil_append, List.getD_cons_zero, List.getD_cons_succ, D.int_i, D.bool_b, D.lst_l, D.str_s, ite_b, ite_and, Bool.false_eq_true, implies_true, true_and, F55, R55, F21, R21, F13300, R13300, ↓reduceIte, dlt_f, beq_f, hz, hp, beq_self_eq_true, Bool.not_true, Bool.not_false, fn55_eq, pathD, cL]
          exact ⟨fun _ => hpre, rfl⟩
      · rw [if_neg hk] at hub'
        have hz : (l.length : Int) = 0 := by simpa using hub'.2
        have htx : (!(k == 4) && !(t == ⟨#[]⟩)) = false := by
          have h9 := hub'.1
          cases hq : (!(k == 4) && !(t == ⟨#[]⟩))
          · rfl
          · rw [hq] at h9; cases h9
        rw [if_neg hk]
        cases hb : bxB a b c d
        · simp (disch := omega) only [vt33, VT.ok, Nd.holds, X.outs, X.ds, X.d, Op1.ev, Op2.ev, takeD_zero, takeD_cons, List.cons_append, List.nil_append, List.getD_cons_zero, List.getD_cons_succ, D.int_i, D.bool_b, D.lst_l, D.str_s, ite_b, ite_and, if_true, Bool.false_eq_true, if_false, implies_true, and_true, F55, R55, F21, R21, F13300, R13300, dlt_f, beq_f hk, hz, hb, htx, Bool.not_false, fn55_eq, pathD, cL]
        · simp (disch := omega) only [vt33, VT.ok, Nd.holds, X.outs, X.ds, X.d, Op1.ev, Op2.ev, takeD_zero, takeD_cons, List.cons_append, List.nil_append, List.getD_cons_zero, List.getD_cons_succ, D.int_i, D.bool_b, D.lst_l, D.str_s, ite_b, ite_and, if_true, Bool.false_eq_true, if_false, implies_true, true_and, F55, R55, F21, R21, F13300, R13300, dlt_f, beq_f hk, hz, hb, htx, Bool.not_true, Bool.not_false, fn55_eq, pathD, cL]
          refine ⟨fun _ => hpre, ?_⟩
          rcases scan_two (p := lblP t) t.size with ⟨g1, j, _, _, _, g⟩ | ⟨g1, g⟩
          · have e : lpIt [.i 0, .i 0, .i k, .i o, .i a, .i b, .i c, .i d, .l l, .s t] = [.i 0, .i 7, .i (j : Int)] := g _ _
            rw [e, plainB, g1]; rfl
          · have e : lpIt [.i 0, .i 0, .i k, .i o, .i a, .i b, .i c, .i d, .l l, .s t] = [.i 1, .i 0, .i (t.size : Int)] := g _ _
            rw [e, plainB, g1]
            cases decide (32 < (t.size : Int)) <;> rfl
  · have ek : ((decide (1 ≤ k) && decide (k ≤ 4)) && usedB (itm k o a b c d l t) && !decide (o < 0)) = false := by
      rw [← Bool.not_eq_true]
      simp only [Bool.and_eq_true, decide_eq_true_eq, Bool.not_eq_true', decide_eq_false_iff_not]
      omega
    have ec : ((decide (k < 1) || decide (4 < k)) || decide (o < 0)) = true := by
      simp only [Bool.or_eq_true, decide_eq_true_eq]; omega
    rw [ek]
    simp only [vt33, VT.ok, Nd.holds, X.outs, X.ds, X.d, Op1.ev, Op2.ev, List.cons_append, List.nil_append, List.getD_cons_zero, List.getD_cons_succ, D.int_i, D.bool_b, D.lst_l, D.str_s, ite_b, ite_or, ite_and, if_true, Bool.false_eq_true, if_false, implies_true, true_and, takeD1_0, F55, R55, F21, R21, F13300, R13300, ec]
end Go.Proofs.Ytpnfcopgmeggoaa.rv
