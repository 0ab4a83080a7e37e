/-
  Nested clusters: the reference's places: the loop over the clusters.; Nested clusters: the reference's Place.; Graphs: chains of clusters, without a program.; Nested clusters: checks of the program: inside, apart.; Nested clusters: Check of the program.; Nested clusters: equal lists, small graphs.; Nested clusters: the chapter's example, the first laws.
-/
import Derived.Test.YtindllmeeckfcaaZCompoundPlacesN
namespace Go.Proofs.Ytindllmeeckfcaa.rv
set_option maxRecDepth 10000
open Go.RV
theorem lpQ0_eq (g : Gd) (o : Od) (B : List Bx) (S : List Pt) (k : Nat) (c : Int) (hc : c = (k : Int) - 1) (M K : List Bx) : lpQ0 [.l (B.map encQ), .l (S.map encZ), .i c, .s g.nm, .b g.dr, .l g.N, .l g.E, .l g.C, .i o.md, .i o.ns, .i o.rs, .i o.m, .i o.rd, .l (M.map encQ), .l (K.map encQ)] =
    [.i 0, .i (g.C.length : Int), .l ((putG (arOf g o B) S k (M, K)).1.map encQ), .l ((putG (arOf g o B) S k (M, K)).2.map encQ)] := by
  have hk : (c + 1).toNat = k := by omega
  simp only [lpQ0, map_decQ, map_decZ, hk]
  rfl
theorem prQ0_mk (g : Gd) (o : Od) (B : List Bx) (S : List Pt) (k : Nat) (c : Int) (hc : c = (k : Int) - 1) (M K : List Bx) (hk : k ≤ g.C.length + 1) (hf : g.N.length ≤ 64 ∧ g.C.length ≤ 16 ∧ B.length = g.N.length ∧ S.length = g.C.length) (hB : ∀ b ∈ B, smQ b) (ho : o.ok = true) (he : ∀ c : Int, -1 ≤ c → c < g.C.length → (arOf g o B).e S c = 0) (hM : M.length = g.N.length) (hK : K.length = g.C.length) (hn : near ((k : Nat) * 2147483648) K) :
    prQ0 [.l (B.map encQ), .l (S.map encZ), .i c, .s g.nm, .b g.dr, .l g.N, .l g.E, .l g.C, .i o.md, .i o.ns, .i o.rs, .i o.m, .i o.rd, .l (M.map encQ), .l (K.map encQ)] := by
  subst hc
  exact ⟨g, o, B, S, k, M, K, rfl, hk, hf, hB, ho, he, hM, hK, hn⟩
theorem putG_one (a : Ar) (S : List Pt) (s : Pl) : putG a S 0 s = putG a S 1 (putTs a.B (ownL a.N (-1)) 0 0 (a.t S (-1)) s) := rfl
theorem putG_next {a : Ar} {S : List Pt} {k : Nat} {s : Pl} (h : k < a.C.length) : putG a S (k + 1) s = putG a S (k + 1 + 1) (putD a S s k) := fold_next h
theorem putG_end {a : Ar} {S : List Pt} {s : Pl} : putG a S (a.C.length + 1) s = s := fold_end
theorem Qn_call (B : List Bx) (x y : Int) (L : List Bx) (l : List Nat) (M : List Bx) (r : Bx) (hL : 0 < L.length) : lpQn [.l (B.map encQ), .i x, .i y, .l (L.map encQ), .l (l.map encN), .i 0, .l (M.map encQ), .i r.1, .i r.2.1, .i r.2.2.1, .i r.2.2.2] =
    [.i 0, .i (l.length : Int), .l ((putN B l (x + (L.getD 0 z4).1 - r.1) (y + (L.getD 0 z4).2.1 - r.2.1) M).map encQ)] := lpQn_eq B x y L l 0 M r hL
theorem Qk_call (x y : Int) (L : List Bx) (a : Nat) (l : List Nat) (K : List Bx) : lpQk [.i x, .i y, .l (L.map encQ), .i (a : Int), .l (l.map encN), .i 0, .l (K.map encQ)] = [.i 0, .i (l.length : Int), .l ((putK x y (l.zip (L.drop a)) K).map encQ)] := lpQk_eq x y L a l 0 K
theorem kid_lt {C : List (List D)} {c : Int} {n : Nat} (h : n = C.length) : ∀ v ∈ kidL C c, v < n := fun v hv => by
  have := (pick_lt hv).1
  omega
set_option maxHeartbeats 800000 in
theorem loopM15_0 : LoopMeets Try.prog F (R L15_0.key) L15_0 lb15_0 := by
  refine loop_meets (pre := R) mixed (sgAt_all (P := Try.prog) (pre := R) (Φ := F) (l := sg15) (fcm ⟨m13, fcm ⟨m34, fcm ⟨m33, fcm ⟨m38, fcm ⟨m39, fcm ⟨m40, fcm ⟨m41, fcm ⟨m36, (fun _ h => nomatch h)⟩⟩⟩⟩⟩⟩⟩⟩)) (loops_n 2 lk15_0 fun k hk => match k, hk with | 0, _ => by rw [li15_0_0]; exact loop_this lf15_1 loopM15_1 | 1, _ => by rw [li15_0_1]; exact loop_this lf15_2 loopM15_2) L15_0 (fun ρ => (((ρ.getD 7 default).lst.length : Int) - (ρ.getD 2 default).int).toNat) le15_0 fun ρ _ hq => ?_
  obtain ⟨g, o, B, S, k, M, K, rfl, hk, hfit, hB, ho, he, hM, hK, hn⟩ : prQ0 ρ := hq
  have hfit' := hfit
  obtain ⟨f1, f2, f3, f4⟩ := hfit'
  have hom := (Od.ok_iff.1 ho).2.2.2.1
  generalize hcc : (k : Int) - 1 = c
  have hlp := lpQ0_eq g o B S k c hcc.symm M K
  by_cases hlt : c < g.C.length
  · have hc : cerr (partP g.N g.C B S c) 0 o.ns = 0 := he c (by omega) hlt
    have hlen := partP_len g.N g.C B S c
    have hml : (partP g.N g.C B S c).length ≤ maxLen := by rw [maxLen_val]; omega
    have hpre : bestPre [.l ((partP g.N g.C B S c).map encP), .i o.ns] := ⟨_, _, rfl, hml⟩
    have hpreP : partRP [.s g.nm, .b g.dr, .l g.N, .l g.E, .l g.C, .l (B.map encQ), .i c, .l (S.map encZ)] := ⟨g, B, _, S, rfl, f1, f2, f3, f4⟩
    have hpreB : blkRP [.s g.nm, .b g.dr, .l g.N, .l g.E, .l g.C, .l (B.map encQ), .i c] := ⟨g, B, _, rfl, f1, f3⟩
    have hpO : ownRP [.s g.nm, .b g.dr, .l g.N, .l g.E, .l g.C, .i c] := f1
    have hpK : kidRP [.s g.nm, .b g.dr, .l g.N, .l g.E, .l g.C, .i c] := f2
    have hL := best_len (partP g.N g.C B S c) o.ns
    have hLs : ∀ q ∈ best (partP g.N g.C B S c) o.ns, smQ q := fun q hq => smQ_best hc hq
    have hol : (ownL g.N c).length ≤ g.N.length := pick_len _ _
    have hkl : (kidL g.C c).length ≤ g.C.length := pick_len _ _
    have hpl : (partP g.N g.C B S c).length = (if 0 < (ownL g.N c).length then 1 else 0) + (kidL g.C c).length := by
      unfold partP
      rw [List.length_append, List.length_map]
      split <;> rfl
    have hbb : smQ (blkB B (ownL g.N c)) := smQ_of (uni_ok _)
    have hts : ∀ t ∈ (arOf g o B).t S c, smQ t.2 := fun t ht => ((okTs_t (a := arOf g o B) hc).1 t ht).1
    have hP : (arOf g o B).P S c = partP g.N g.C B S c := rfl
    have hsx : IntKind.i64.wrap (c + 1) = c + 1 := w64 (by omega)
    cases k with
    | zero =>
      have hc1 : c = -1 := by omega
      have hneg : decide ((0 : Int) ≤ c) = false := decide_eq_false (by omega)
      have hnr := near_put (n := 0) (m := (1 : Nat) * 2147483648) (B := B) (own := ownL g.N c) (x := 0) (y := 0) (by omega) (by omega) (by omega) _ (M, K) hts (nearK_mono (by omega) hn)
      have hpl2 := pTs_len B (ownL g.N c) 0 0 ((arOf g o B).t S c) (M, K)
      rw [putG_one] at hlp
      have hput : putTs (arOf g o B).B (ownL (arOf g o B).N (-1)) 0 0 ((arOf g o B).t S (-1)) (M, K) = putTs B (ownL g.N c) 0 0 ((arOf g o B).t S c) (M, K) := by rw [hc1]; rfl
      rw [hput] at hlp
      simp (disch := omega) only [rt15_0, VT.ok, Nd.holds, X.outs, X.ds, X.d, Op1.ev, Op2.ev, takeD_zero, takeD_cons, List.cons_append, List.nil_append, List.getD_cons_zero, List.getD_cons_succ, D.int_i, D.bool_b, D.lst_l, List.length_map, Bool.false_eq_true, F33, R33, F38, R38, F41, R41, F39, R39, F34, R34, F11500, R11500, F11501, R11501, ↓reduceIte, dlt_t, hsx, partR_eq, bestD_eq, hc, ownR_eq, kidR_eq, hneg]
      refine ⟨fun _ => hpreP, fun _ => hpre, fun _ => hpO, ?_⟩
      by_cases hown : 0 < (ownL g.N c).length
      · have hpt := putTs_own (a := arOf g o B) (S := S) (c := c) hown 0 0 M K
        rw [hP] at hpt
        have hpt' : putTs B (ownL g.N c) 0 0 ((arOf g o B).t S c) (M, K) = _ := hpt
        rw [hpt'] at hnr hpl2 hlp
        rw [if_pos hown] at hpl
        rw [if_pos (decide_eq_true (by omega))]
        have q1 := Qn_call B 0 0 (best (partP g.N g.C B S c) o.ns) (ownL g.N c) M (blkB B (ownL g.N c)) (by omega)
        have q2 := Qk_call 0 0 (best (partP g.N g.C B S c) o.ns) 1 (kidL g.C c) K
        have p1 : prQn [.l (B.map encQ), .i 0, .i 0, .l ((best (partP g.N g.C B S c) o.ns).map encQ), .l ((ownL g.N c).map encN), .i 0, .l (M.map encQ), .i (blkB B (ownL g.N c)).1, .i (blkB B (ownL g.N c)).2.1, .i (blkB B (ownL g.N c)).2.2.1, .i (blkB B (ownL g.N c)).2.2.2] := ⟨B, 0, 0, _, _, 0, M, _, rfl, by omega, by omega, own_lt f3, by omega, hB, by omega, by omega, hbb, by omega, hLs⟩
        have p2 : prQk [.i 0, .i 0, .l ((best (partP g.N g.C B S c) o.ns).map encQ), .i 1, .l ((kidL g.C c).map encN), .i 0, .l (K.map encQ)] := ⟨0, 0, _, 1, _, 0, K, rfl, by omega, by omega, by omega, kid_lt hK, by omega, by omega, hLs⟩
        rw [show (((1 : Nat) : Int)) = 1 from rfl] at q2
        simp only [takeD_zero, takeD_cons, List.cons_append, List.nil_append, List.getD_cons_zero, List.getD_cons_succ, blkR_eq, q1, q2]
        refine ⟨fun _ => hpreB, fun _ => p1, fun _ => hpK, fun _ => p2, ?_⟩
        refine round_step [.l (B.map encQ), .l (S.map encZ), .i (c + 1), .s g.nm, .b g.dr, .l g.N, .l g.E, .l g.C, .i o.md, .i o.ns, .i o.rs, .i o.m, .i o.rd, _, _] rfl (prQ0_mk g o B S 1 (c + 1) (by omega) _ _ (by omega) hfit hB ho he (hpl2.1.trans hM) (hpl2.2.trans hK) hnr) ?_ ?_
        · show ((g.C.length : Int) - (c + 1)).toNat < ((g.C.length : Int) - c).toNat
          omega
        · have e1 := lpQ0_eq g o B S 1 (c + 1) (by omega) (putN B (ownL g.N c) (0 + ((best (partP g.N g.C B S c) o.ns).getD 0 z4).1 - (blkB B (ownL g.N c)).1) (0 + ((best (partP g.N g.C B S c) o.ns).getD 0 z4).2.1 - (blkB B (ownL g.N c)).2.1) M) (putK 0 0 ((kidL g.C c).zip ((best (partP g.N g.C B S c) o.ns).drop 1)) K)
          rw [show F L15_0.key = lpQ0 from rfl]
          exact e1.trans hlp.symm
      · have hpt := putTs_none (a := arOf g o B) (S := S) (c := c) hown 0 0 M K
        rw [hP] at hpt
        have hpt' : putTs B (ownL g.N c) 0 0 ((arOf g o B).t S c) (M, K) = _ := hpt
        rw [hpt'] at hnr hpl2 hlp
        rw [if_neg hown] at hpl
        rw [if_neg (by rw [decide_eq_false (by omega)]; decide)]
        have q2 := Qk_call 0 0 (best (partP g.N g.C B S c) o.ns) 0 (kidL g.C c) K
        have p2 : prQk [.i 0, .i 0, .l ((best (partP g.N g.C B S c) o.ns).map encQ), .i 0, .l ((kidL g.C c).map encN), .i 0, .l (K.map encQ)] := ⟨0, 0, _, 0, _, 0, K, rfl, by omega, by omega, by omega, kid_lt hK, by omega, by omega, hLs⟩
        rw [show (((0 : Nat) : Int)) = 0 from rfl, List.drop_zero] at q2
        simp only [takeD_zero, takeD_cons, List.getD_cons_zero, List.getD_cons_succ, q2]
        refine ⟨fun _ => hpK, fun _ => p2, ?_⟩
        refine round_step [.l (B.map encQ), .l (S.map encZ), .i (c + 1), .s g.nm, .b g.dr, .l g.N, .l g.E, .l g.C, .i o.md, .i o.ns, .i o.rs, .i o.m, .i o.rd, _, _] rfl (prQ0_mk g o B S 1 (c + 1) (by omega) _ _ (by omega) hfit hB ho he hM (hpl2.2.trans hK) hnr) ?_ ?_
        · show ((g.C.length : Int) - (c + 1)).toNat < ((g.C.length : Int) - c).toNat
          omega
        · have e1 := lpQ0_eq g o B S 1 (c + 1) (by omega) M (putK 0 0 ((kidL g.C c).zip (best (partP g.N g.C B S c) o.ns)) K)
          rw [show F L15_0.key = lpQ0 from rfl]
          exact e1.trans hlp.symm
    | succ k =>
      have hc1 : c = (k : Int) := by omega
      subst hc1
      have hkC : k < g.C.length := by omega
      have hpos : decide ((0 : Int) ≤ (k : Int)) = true := decide_eq_true (by omega)
      have hnear := near_at hn (c := k) (by omega)
      have w1 : IntKind.i64.wrap ((K.getD k z4).1 + o.m) = (K.getD k z4).1 + o.m := w64 (by omega)
      have w2 : IntKind.i64.wrap ((K.getD k z4).2.1 + o.m) = (K.getD k z4).2.1 + o.m := w64 (by omega)
      have hput : putD (arOf g o B) S (M, K) k = putTs B (ownL g.N (k : Int)) ((K.getD k z4).1 + o.m) ((K.getD k z4).2.1 + o.m) ((arOf g o B).t S (k : Int)) (M, K) := rfl
      rw [putG_next (a := arOf g o B) hkC, hput] at hlp
      generalize hxx : (K.getD k z4).1 + o.m = x at *
      generalize hyy : (K.getD k z4).2.1 + o.m = y at *
      have hnr := near_put (n := (k + 1 : Nat) * 2147483648 + 1048576) (m := (k + 1 + 1 : Nat) * 2147483648) (B := B) (own := ownL g.N (k : Int)) (x := x) (y := y) (by omega) (by omega) (by omega) _ (M, K) hts (nearK_mono (by omega) hn)
      have hpl2 := pTs_len B (ownL g.N (k : Int)) x y ((arOf g o B).t S (k : Int)) (M, K)
      simp (disch := omega) only [rt15_0, VT.ok, Nd.holds, X.outs, X.ds, X.d, Op1.ev, Op2.ev, takeD_zero, takeD_cons, List.cons_append, List.nil_append, List.getD_cons_zero, List.getD_cons_succ, D.int_i, D.bool_b, D.lst_l, Int.toNat_natCast, List.length_map, implies_true, true_and, F33, R33, F38, R38, F41, R41, F39, R39, F34, R34, F11500, R11500, F11501, R11501, ↓reduceIte, dlt_t, hsx, partR_eq, bestD_eq, hc, ownR_eq, kidR_eq, hpos, List.length_map, rowQz, encQ, hxx, hyy, w1, w2]
      refine ⟨fun _ => hpreP, fun _ => hpre, fun _ => hpO, ?_⟩
      by_cases hown : 0 < (ownL g.N (k : Int)).length
      · have hpt := putTs_own (a := arOf g o B) (S := S) (c := (k : Int)) hown x y M K
        rw [hP] at hpt
        have hpt' : putTs B (ownL g.N (k : Int)) x y ((arOf g o B).t S (k : Int)) (M, K) = _ := hpt
        rw [hpt'] at hnr hpl2 hlp
        rw [if_pos hown] at hpl
        rw [if_pos (decide_eq_true (by omega))]
        have q1 := Qn_call B x y (best (partP g.N g.C B S (k : Int)) o.ns) (ownL g.N (k : Int)) M (blkB B (ownL g.N (k : Int))) (by omega)
        have q2 := Qk_call x y (best (partP g.N g.C B S (k : Int)) o.ns) 1 (kidL g.C (k : Int)) K
        have p1 : prQn [.l (B.map encQ), .i x, .i y, .l ((best (partP g.N g.C B S (k : Int)) o.ns).map encQ), .l ((ownL g.N (k : Int)).map encN), .i 0, .l (M.map encQ), .i (blkB B (ownL g.N (k : Int))).1, .i (blkB B (ownL g.N (k : Int))).2.1, .i (blkB B (ownL g.N (k : Int))).2.2.1, .i (blkB B (ownL g.N (k : Int))).2.2.2] := ⟨B, x, y, _, _, 0, M, _, rfl, by omega, by omega, own_lt f3, by omega, hB, by omega, by omega, hbb, by omega, hLs⟩
        have p2 : prQk [.i x, .i y, .l ((best (partP g.N g.C B S (k : Int)) o.ns).map encQ), .i 1, .l ((kidL g.C (k : Int)).map encN), .i 0, .l (K.map encQ)] := ⟨x, y, _, 1, _, 0, K, rfl, by omega, by omega, by omega, kid_lt hK, by omega, by omega, hLs⟩
        rw [show (((1 : Nat) : Int)) = 1 from rfl] at q2
        simp only [takeD_zero, takeD_cons, List.cons_append, List.nil_append, List.getD_cons_zero, List.getD_cons_succ, blkR_eq, q1, q2]
        refine ⟨fun _ => hpreB, fun _ => p1, fun _ => hpK, fun _ => p2, ?_⟩
        refine round_step [.l (B.map encQ), .l (S.map encZ), .i ((k : Int) + 1), .s g.nm, .b g.dr, .l g.N, .l g.E, .l g.C, .i o.md, .i o.ns, .i o.rs, .i o.m, .i o.rd, _, _] rfl (prQ0_mk g o B S (k + 1 + 1) ((k : Int) + 1) (by omega) _ _ (by omega) hfit hB ho he (hpl2.1.trans hM) (hpl2.2.trans hK) hnr) ?_ ?_
        · show ((g.C.length : Int) - ((k : Int) + 1)).toNat < ((g.C.length : Int) - (k : Int)).toNat
          omega
        · have e1 := lpQ0_eq g o B S (k + 1 + 1) ((k : Int) + 1) (by omega) (putN B (ownL g.N (k : Int)) (x + ((best (partP g.N g.C B S (k : Int)) o.ns).getD 0 z4).1 - (blkB B (ownL g.N (k : Int))).1) (y + ((best (partP g.N g.C B S (k : Int)) o.ns).getD 0 z4).2.1 - (blkB B (ownL g.N (k : Int))).2.1) M) (putK x y ((kidL g.C (k : Int)).zip ((best (partP g.N g.C B S (k : Int)) o.ns).drop 1)) K)
          rw [show F L15_0.key = lpQ0 from rfl]
          exact e1.trans hlp.symm
      · have hpt := putTs_none (a := arOf g o B) (S := S) (c := (k : Int)) hown x y M K
        rw [hP] at hpt
        have hpt' : putTs B (ownL g.N (k : Int)) x y ((arOf g o B).t S (k : Int)) (M, K) = _ := hpt
        rw [hpt'] at hnr hpl2 hlp
        rw [if_neg hown] at hpl
        rw [if_neg (by rw [decide_eq_false (by omega)]; decide)]
        have q2 := Qk_call x y (best (partP g.N g.C B S (k : Int)) o.ns) 0 (kidL g.C (k : Int)) K
        have p2 : prQk [.i x, .i y, .l ((best (partP g.N g.C B S (k : Int)) o.ns).map encQ), .i 0, .l ((kidL g.C (k : Int)).map encN), .i 0, .l (K.map encQ)] := ⟨x, y, _, 0, _, 0, K, rfl, by omega, by omega, by omega, kid_lt hK, by omega, by omega, hLs⟩
        rw [show (((0 : Nat) : Int)) = 0 from rfl, List.drop_zero] at q2
        simp only [takeD_zero, takeD_cons, List.getD_cons_zero, List.getD_cons_succ, q2]
        refine ⟨fun _ => hpK, fun _ => p2, ?_⟩
        refine round_step [.l (B.map encQ), .l (S.map encZ), .i ((k : Int) + 1), .s g.nm, .b g.dr, .l g.N, .l g.E, .l g.C, .i o.md, .i o.ns, .i o.rs, .i o.m, .i o.rd, _, _] rfl (prQ0_mk g o B S (k + 1 + 1) ((k : Int) + 1) (by omega) _ _ (by omega) hfit hB ho he hM (hpl2.2.trans hK) hnr) ?_ ?_
        · show ((g.C.length : Int) - ((k : Int) + 1)).toNat < ((g.C.length : Int) - (k : Int)).toNat
          omega
        · have e1 := lpQ0_eq g o B S (k + 1 + 1) ((k : Int) + 1) (by omega) M (putK x y ((kidL g.C (k : Int)).zip (best (partP g.N g.C B S (k : Int)) o.ns)) K)
          rw [show F L15_0.key = lpQ0 from rfl]
          exact e1.trans hlp.symm
  · have hk2 : k = g.C.length + 1 := by omega
    subst hk2
    simp (disch := omega) only [rt15_0, VT.ok, X.ds, X.d, Op1.ev, Op2.ev, List.getD_cons_zero, List.getD_cons_succ, D.int_i, D.bool_b, D.lst_l, Bool.false_eq_true, ↓reduceIte, dlt_f]
    refine round_exit (by omega) ?_
    rw [show F L15_0.key = lpQ0 from rfl]
    refine hlp.trans ?_
    rw [show g.C.length + 1 = (arOf g o B).C.length + 1 from rfl, putG_end]
    have : c = (g.C.length : Int) := by omega
    subst this
    rfl
end Go.Proofs.Ytindllmeeckfcaa.rv
namespace Go.Proofs.Ytindllmeeckfcaa.rv
set_option maxRecDepth 10000
open Go.RV
theorem fold_congr' {α : Type} {f h : Nat → α → α} {n i : Nat} {s : α} (hh : ∀ j, j < n → ∀ s, f j s = h j s) : foldN f n i s = foldN h n i s := by
  by_cases hi : i < n
  · rw [fold_next hi, fold_next hi, hh i hi, fold_congr' hh]
  · have e : (List.range n).drop i = [] := List.drop_of_length_le (by simp; omega)
    simp [foldN, e]
termination_by n - i
theorem put_G {a : Ar} {S : List Pt} {T : List (List Tp)} (h : a.done S T) : putG a S 0 (List.replicate a.N.length z4, List.replicate a.C.length z4) = put a T := by
  show foldN (fun c s => putD a S s c) a.C.length 0 (putTs a.B (ownL a.N (-1)) 0 0 (a.t S (-1)) (List.replicate a.N.length z4, List.replicate a.C.length z4)) =
    foldN (fun c s => putC a T s c) a.C.length 0 (putTs a.B (ownL a.N (-1)) 0 0 (T.getD a.C.length []) (List.replicate a.N.length z4, List.replicate a.C.length z4))
  rw [h.t1]
  refine fold_congr' fun j hj s => ?_
  show putTs a.B (ownL a.N j) ((s.2.getD j z4).1 + a.m) ((s.2.getD j z4).2.1 + a.m) (a.t S j) s = putTs a.B (ownL a.N j) ((s.2.getD j z4).1 + a.m) ((s.2.getD j z4).2.1 + a.m) (T.getD j []) s
  rw [(h.at' j hj).2.2.2]
theorem lpQv_eq (a b c : D) (M : List Bx) : lpQv [a, b, c, .i 0, .l (M.map encQ)] = scanN (fun v => !bxQ (M.getD v z4)) (fun j => [.i 0, .l [], .l [], .i 2, .i (j : Int)]) (fun j => [.i 1, a, b, c, .i (j : Int)]) M.length 0 := by
  simp only [lpQv, map_decQ, List.length_map, Int.toNat_zero, Nat.sub_zero]
theorem m15 : Meets Try.prog 15 S15 (R 15) (F 15) := by
  refine meets_of_vt (pre := R) (Φ := F) mixed (sgAt_all (P := Try.prog) (pre := R) (Φ := F) (l := sg15) (fcm ⟨m13, fcm ⟨m34, fcm ⟨m33, fcm ⟨m38, fcm ⟨m39, fcm ⟨m40, fcm ⟨m41, fcm ⟨m36, (fun _ h => nomatch h)⟩⟩⟩⟩⟩⟩⟩⟩)) Try.func15 b15 n15 (loops_n 5 k15 fun k hk => match k, hk with | 0, _ => loop_this lf15_0 loopM15_0 | 1, _ => loop_this lf15_1 loopM15_1 | 2, _ => loop_this lf15_2 loopM15_2 | 3, _ => loop_this lf15_3 loopM15_3 | 4, _ => loop_this lf15_4 loopM15_4) e15 fun ds hf _ => ?_
  obtain ⟨g, o, B, ds', rfl, h0, hm, _⟩ := fitsGO hf.flat
  obtain rfl := fits0 h0
  simp only [vt15, VT.ok, Nd.holds, X.outs, X.ds, X.d, Op1.ev, Op2.ev, takeD_zero, takeD_cons, List.cons_append, List.nil_append, List.getD_cons_zero, List.getD_cons_succ, D.int_i, D.bool_b, D.lst_l, Int.toNat_natCast, implies_true, true_and, F13, R13, F11502, R11502, F11503, R11503, F11504, R11504, F15, sizesD_eq, placeD_eq]
  by_cases h : inE g o B = 0
  · obtain ⟨h1, h2, h3, h4, h5⟩ := inE_ok h
    obtain ⟨v1, v2⟩ := valid_len h1
    cases ha : (arOf g o B).all with
    | none =>
      have hr : placeR g o B = (([], []), 2) := by rw [placeR, if_pos h, ha]
      have hs : sizesR g o B = ([], 2) := by rw [sizesR, if_pos h, ha]
      rw [hr, hs]; rfl
    | some r =>
      obtain ⟨S, T⟩ := r
      have hd := all_done (a := arOf g o B) (valid_okV h1).2.2.1 ha
      have hsl : S.length = g.C.length := hd.sl
      have hs : sizesR g o B = (S.map szB, 0) := by rw [sizesR, if_pos h, ha]
      have hbB : ∀ b ∈ B, smQ b := fun b hb => smQ_of (badB_ok h4 b hb)
      have hr : placeR g o B = if (badL (put (arOf g o B) T).1 || badL (put (arOf g o B) T).2) = true then (([], []), 2) else (put (arOf g o B) T, 0) := by rw [placeR, if_pos h, ha]
      have hpG : putG (arOf g o B) S 0 (List.replicate g.N.length z4, List.replicate g.C.length z4) = put (arOf g o B) T := put_G hd
      have hpre := prQ0_mk g o B S 0 (-1) (by omega) (List.replicate g.N.length z4) (List.replicate g.C.length z4) (by omega) ⟨v1, v2, h3, hsl⟩ hbB h2 (fun c hc1 hc2 => hd.all_e hc1 hc2) List.length_replicate List.length_replicate (near_z _ (by omega))
      have hlp := lpQ0_eq g o B S 0 (-1) (by omega) (List.replicate g.N.length z4) (List.replicate g.C.length z4)
      rw [hpG] at hlp
      obtain ⟨l1, l2⟩ := put_len (arOf g o B) T _ 0 (put0 (arOf g o B) T) rfl (by omega)
      obtain ⟨l3, l4⟩ := pTs_len B (ownL g.N (-1)) 0 0 (T.getD g.C.length []) (List.replicate g.N.length z4, List.replicate g.C.length z4)
      have l5 : (put (arOf g o B) T).1.length = g.N.length := l1.trans (l3.trans List.length_replicate)
      have l6 : (put (arOf g o B) T).2.length = g.C.length := l2.trans (l4.trans List.length_replicate)
      generalize put (arOf g o B) T = PT at *
      obtain ⟨M, K⟩ := PT
      simp only at l5 l6 hlp hr
      have hq1 : ∀ a b c : D, prQv [a, b, c, .i 0, .l (M.map encQ)] := fun a b c => ⟨a, b, c, M, 0, rfl, by omega, by rw [maxLen_val]; omega⟩
      have hq2 : ∀ a b c : D, prQv [a, b, c, .i 0, .l (K.map encQ)] := fun a b c => ⟨a, b, c, K, 0, rfl, by omega, by rw [maxLen_val]; omega⟩
      rw [hr, hs]
      simp (disch := omega) only [takeD_zero, takeD_cons, List.cons_append, List.nil_append, List.getD_cons_zero, List.getD_cons_succ, Bool.false_eq_true, implies_true, true_and, ↓reduceIte, dle_t, beq_t, rep_Q, ← szB_map, hlp, lpQv_eq, Bool.not_true]
      refine ⟨fun _ => hpre, fun _ => hq1 _ _ _, ?_⟩
      rcases scan_any (p := fun v => !bxQ (M.getD v z4)) (hit := fun j => [D.i 0, .l [], .l [], .i 2, .i (j : Int)]) (miss := fun j => [D.i 1, .l [], .l [], .i 0, .i (j : Int)]) M.length with ⟨k1, j, _, _, _, k2⟩ | ⟨k1, k2⟩
      · have k1' : badL M = true := k1
        rw [k2, k1']
        rfl
      · have k1' : badL M = false := k1
        rw [k2, k1']
        simp only [takeD_zero, takeD_cons, List.cons_append, List.nil_append, List.getD_cons_zero, List.getD_cons_succ, D.int_i, Bool.false_eq_true, if_false, show ((1 : Int) == 0) = false from rfl, Bool.false_or]
        refine ⟨fun _ => hq2 _ _ _, ?_⟩
        rcases scan_any (p := fun v => !bxQ (K.getD v z4)) (hit := fun j => [D.i 0, .l [], .l [], .i 2, .i (j : Int)]) (miss := fun j => [D.i 1, .l [], .l [], .i 0, .i (j : Int)]) K.length with ⟨k3, j, _, _, _, k4⟩ | ⟨k3, k4⟩
        · have k3' : badL K = true := k3
          rw [k4, k3']
          rfl
        · have k3' : badL K = false := k3
          rw [k4, k3']
          rfl
  · have hb : (!(inE g o B == 0)) = true := by simp [h]
    have hr : placeR g o B = (([], []), inE g o B) := by rw [placeR, if_neg h]
    have hs : sizesR g o B = ([], inE g o B) := by rw [sizesR, if_neg h]
    rw [hr, hs]
    simp only [if_true, hb, if_true]
    rfl
end Go.Proofs.Ytindllmeeckfcaa.rv
namespace Go.Proofs.Ytindllmeeckfcaa.rv
set_option maxRecDepth 10000
open Go.RV
section
variable {C : List (List D)} (hok : okC C C.length)
include hok
theorem ar_at {k : Int} (h0 : 0 ≤ k) (hk : k < C.length) : around C k = k :: around C (cI (el C k.toNat) 1) := around_at h0 (hok.mono (by omega))
end
end Go.Proofs.Ytindllmeeckfcaa.rv
namespace Go.Proofs.Ytindllmeeckfcaa.rv
set_option maxRecDepth 10000
open Go.RV
theorem pick_has {p : Nat → Bool} {n w : Nat} (h : w < n) : (pickN p n).contains w = p w := by
  rw [Bool.eq_iff_iff, List.contains_iff_mem]
  unfold pickN
  rw [List.mem_filter, List.mem_range]
  exact ⟨fun h => h.2, fun h2 => ⟨h, h2⟩⟩
theorem hasN (l : List Nat) (w : Nat) : anyN (fun k => (w : Int) == cI (el (l.map encN) k) 0) l.length = l.contains w := by
  have e : ∀ k, k < l.length → cI (el (l.map encN) k) 0 = (l.getD k 0 : Nat) := fun k hk => by
    simp only [cI, el]
    rw [rowNn hk]; rfl
  rw [Bool.eq_iff_iff, anyN_iff, List.contains_iff_mem]
  constructor
  · rintro ⟨k, hk, h⟩
    rw [e k hk, beq_iff_eq] at h
    have : w = l.getD k 0 := by omega
    rw [this]
    exact getD_memN hk
  · intro h
    obtain ⟨k, hk, h2⟩ := List.getElem_of_mem h
    refine ⟨k, hk, ?_⟩
    rw [e k hk, beq_iff_eq]
    simp [List.getD, hk, h2]
theorem ciN_eq (l : List Nat) (w : Nat) : ciFn [.l (l.map encN), .i (w : Int)] = [.b (l.contains w)] := by
  rw [← hasN]
  show [D.b (anyN _ (l.map encN).length)] = _
  rw [List.length_map]
  rfl
def memL (g : Gd) (c : Nat) : List Nat := pickN (inN g.N g.C c) g.N.length
theorem memD_eq {g : Gd} (h : validE g = 0) {c : Nat} (hc : c < g.C.length) : memD [.s g.nm, .b g.dr, .l g.N, .l g.E, .l g.C, .i (c : Int)] = [.l ((memL g c).map encN)] := by
  have e : memR g (c : Int) = mems g.N g.C (c : Int) := if_pos ⟨h, by omega, by omega⟩
  show [D.l (memR g (c : Int))] = _
  rw [e]
  unfold mems memL
  rw [← one1_pick]
  rfl
theorem conD_eq (g : Gd) (c : Int) (k : Nat) : conD [.s g.nm, .b g.dr, .l g.N, .l g.E, .l g.C, .i c, .i (k : Int)] = [.b ((around g.C (cP g.C k)).contains c)] := by
  simp only [conD, cL, cI, List.getD_cons_succ, List.getD_cons_zero, D.lst_l, D.int_i, Int.toNat_natCast]
theorem m56 : Meets Try.prog 56 S56 (R 56) (F 56) := by
  refine meets_of_vt (pre := R) (Φ := F) mixed (sgAt_all (P := Try.prog) (pre := R) (Φ := F) (l := sg56) (fcm ⟨m58, fcm ⟨m57, (fun _ h => nomatch h)⟩⟩)) Try.func56 b56 n56 (loops_n 0 k56 fun k hk => by omega) e56 fun ds _ hq => ?_
  obtain ⟨q, c, K, m, rfl, hc, hm⟩ : okInP ds := hq
  have hn : IntKind.i64.wrap (-m) = -m := w64 (by omega)
  have hout : okInD [.i q.1, .i q.2.1, .i q.2.2.1, .i q.2.2.2, c, .p [.l (K.map encQ)], .p [.i m]] = [.b (okIn q K c.int m)] := by
    show [D.b (okIn q ((K.map encQ).map decQ) c.int m)] = _
    rw [map_decQ]
  have hif := fn58_eq (K.getD c.int.toNat z4) (-m)
  by_cases h0 : c.int < 0
  · have hd : decide (c.int < 0) = true := decide_eq_true h0
    simp (disch := omega) only [vt56, VT.ok, Nd.holds, X.outs, X.ds, X.d, Op1.ev, Op2.ev, List.cons_append, List.nil_append, List.getD_cons_zero, List.getD_cons_succ, D.int_i, D.bool_b, D.lst_l, List.length_map, Bool.false_eq_true, implies_true, and_true, false_implies, F58, R58, F57, R57, F56, ↓reduceIte, dle_f, dlt_t, w64', D.ptd_p, hout, okIn, hd, Bool.not_true, Bool.true_or]
  · have hd : decide (c.int < 0) = false := decide_eq_false h0
    simp (disch := omega) only [vt56, VT.ok, Nd.holds, X.outs, X.ds, X.d, Op1.ev, Op2.ev, takeD_zero, takeD_cons, List.cons_append, List.nil_append, List.getD_cons_zero, List.getD_cons_succ, D.int_i, D.bool_b, D.lst_l, List.length_map, Bool.false_eq_true, implies_true, and_true, F58, R58, F57, R57, F56, ↓reduceIte, dle_t, dlt_t, D.ptd_p, hout, okIn, hd, Bool.not_false, Bool.false_or, List.length_map, rowQz, encQ, hn, Int.zero_sub, hif, fn57_eq]
theorem loopM30_0 : LoopMeets Try.prog F (R L30_0.key) L30_0 lb30_0 := by
  refine loop_meets (pre := R) mixed (sgAt_all (P := Try.prog) (pre := R) (Φ := F) (l := sg30) (fcm ⟨m56, (fun _ h => nomatch h)⟩)) (loops_n 0 lk30_0 fun k hk => by omega) L30_0 (fun ρ => ((ρ.getD 3 default).int - (ρ.getD 4 default).int).toNat) le30_0 fun ρ _ hq => ?_
  obtain ⟨v, M, K, N, m, j, rfl, hj, h64, hM, hN, hm1, hm2⟩ : prI0 ρ := hq
  by_cases hlt : j < N.length
  · have hpre : okInP [.i (M.getD j z4).1, .i (M.getD j z4).2.1, .i (M.getD j z4).2.2.1, .i (M.getD j z4).2.2.2, (N.getD j []).getD 4 default, .p [.l (K.map encQ)], .p [.i m]] := ⟨_, _, K, m, rfl, (hN j hlt).2, hm1, hm2⟩
    have hout : okInD [.i (M.getD j z4).1, .i (M.getD j z4).2.1, .i (M.getD j z4).2.2.1, .i (M.getD j z4).2.2.2, (N.getD j []).getD 4 default, .p [.l (K.map encQ)], .p [.i m]] = [.b (okIn (M.getD j z4) K (nC N j) m)] := by
      show [D.b (okIn (M.getD j z4) ((K.map encQ).map decQ) (nC N j) m)] = _
      rw [map_decQ]
    simp (disch := omega) only [rt30_0, VT.ok, Nd.holds, X.outs, X.ds, X.d, Op1.ev, Op2.ev, takeD_zero, takeD_cons, List.cons_append, List.nil_append, List.getD_cons_zero, List.getD_cons_succ, D.int_i, D.bool_b, D.lst_l, Int.toNat_natCast, List.length_map, implies_true, true_and, F56, R56, ↓reduceIte, dle_t, dlt_t, w64', rowQz, encQ, hout]
    refine ⟨fun _ => hpre, ?_⟩
    show if outN N M K m j = true then _ else _
    cases hb : outN N M K m j
    · simp only [Bool.false_eq_true, if_false]
      refine round_next ⟨⟨v, M, K, N, m, j + 1, rfl, by omega, h64, hM, hN, hm1, hm2⟩, ?_, ?_⟩
      · show ((N.length : Int) - ((j + 1 : Nat) : Int)).toNat < ((N.length : Int) - (j : Int)).toNat
        omega
      · show lpI0 [.l (M.map encQ), v, .l N, .i (N.length : Int), .i ((j + 1 : Nat) : Int), .i m, .l (K.map encQ)] = lpI0 [.l (M.map encQ), v, .l N, .i (N.length : Int), .i (j : Int), .i m, .l (K.map encQ)]
        simp only [lpI0, map_decQ, scB, Int.toNat_natCast]
        exact scan_next hlt hb
    · simp only [if_true]
      refine round_exit (by omega) ?_
      show lpI0 [.l (M.map encQ), v, .l N, .i (N.length : Int), .i (j : Int), .i m, .l (K.map encQ)] = _
      simp only [lpI0, map_decQ, scB, Int.toNat_natCast]
      exact scan_hit hlt hb
  · have hj' : j = N.length := by omega
    subst hj'
    simp (disch := omega) only [rt30_0, VT.ok, X.ds, X.d, Op2.ev, List.getD_cons_zero, List.getD_cons_succ, D.int_i, D.bool_b, Bool.false_eq_true, ↓reduceIte, dlt_f]
    refine round_exit (by omega) ?_
    show lpI0 [.l (M.map encQ), v, .l N, .i (N.length : Int), .i (N.length : Int), .i m, .l (K.map encQ)] = _
    simp only [lpI0, map_decQ, scB, Int.toNat_natCast]
    exact scan_end
theorem loopM30_1 : LoopMeets Try.prog F (R L30_1.key) L30_1 lb30_1 := by
  refine loop_meets (pre := R) mixed (sgAt_all (P := Try.prog) (pre := R) (Φ := F) (l := sg30) (fcm ⟨m56, (fun _ h => nomatch h)⟩)) (loops_n 0 lk30_1 fun k hk => by omega) L30_1 (fun ρ => ((ρ.getD 2 default).int - (ρ.getD 3 default).int).toNat) le30_1 fun ρ _ hq => ?_
  obtain ⟨v, K, C, m, j, rfl, hj, h16, hK, hC, hm1, hm2⟩ : prI1 ρ := hq
  by_cases hlt : j < C.length
  · have hpre : okInP [.i (K.getD j z4).1, .i (K.getD j z4).2.1, .i (K.getD j z4).2.2.1, .i (K.getD j z4).2.2.2, (C.getD j []).getD 1 default, .p [.l (K.map encQ)], .p [.i m]] := ⟨_, _, K, m, rfl, by rw [hK]; exact (hC j hlt).2, hm1, hm2⟩
    have hout : okInD [.i (K.getD j z4).1, .i (K.getD j z4).2.1, .i (K.getD j z4).2.2.1, .i (K.getD j z4).2.2.2, (C.getD j []).getD 1 default, .p [.l (K.map encQ)], .p [.i m]] = [.b (okIn (K.getD j z4) K (cP C j) m)] := by
      show [D.b (okIn (K.getD j z4) ((K.map encQ).map decQ) (cP C j) m)] = _
      rw [map_decQ]
    simp (disch := omega) only [rt30_1, VT.ok, Nd.holds, X.outs, X.ds, X.d, Op1.ev, Op2.ev, takeD_zero, takeD_cons, List.cons_append, List.nil_append, List.getD_cons_zero, List.getD_cons_succ, D.int_i, D.bool_b, D.lst_l, Int.toNat_natCast, List.length_map, implies_true, true_and, F56, R56, ↓reduceIte, dle_t, dlt_t, w64', rowQz, encQ, hout]
    refine ⟨fun _ => hpre, ?_⟩
    show if outC C K m j = true then _ else _
    cases hb : outC C K m j
    · simp only [Bool.false_eq_true, if_false]
      refine round_next ⟨⟨v, K, C, m, j + 1, rfl, by omega, h16, hK, hC, hm1, hm2⟩, ?_, ?_⟩
      · show ((C.length : Int) - ((j + 1 : Nat) : Int)).toNat < ((C.length : Int) - (j : Int)).toNat
        omega
      · show lpI1 [v, .l C, .i (C.length : Int), .i ((j + 1 : Nat) : Int), .i m, .l (K.map encQ)] = lpI1 [v, .l C, .i (C.length : Int), .i (j : Int), .i m, .l (K.map encQ)]
        simp only [lpI1, map_decQ, scB, Int.toNat_natCast]
        exact scan_next hlt hb
    · simp only [if_true]
      refine round_exit (by omega) ?_
      show lpI1 [v, .l C, .i (C.length : Int), .i (j : Int), .i m, .l (K.map encQ)] = _
      simp only [lpI1, map_decQ, scB, Int.toNat_natCast]
      exact scan_hit hlt hb
  · have hj' : j = C.length := by omega
    subst hj'
    simp (disch := omega) only [rt30_1, VT.ok, X.ds, X.d, Op2.ev, List.getD_cons_zero, List.getD_cons_succ, D.int_i, D.bool_b, Bool.false_eq_true, ↓reduceIte, dlt_f]
    refine round_exit (by omega) ?_
    show lpI1 [v, .l C, .i (C.length : Int), .i (C.length : Int), .i m, .l (K.map encQ)] = _
    simp only [lpI1, map_decQ, scB, Int.toNat_natCast]
    exact scan_end
theorem withD_eq (g : Gd) (m : Int) (M K : List Bx) : withD [.s g.nm, .b g.dr, .l g.N, .l g.E, .l g.C, .i m, .l (M.map encQ), .l (K.map encQ)] = [.b (withinB g m M K)] := by
  show [D.b (withinB g m ((M.map encQ).map decQ) ((K.map encQ).map decQ))] = _
  rw [map_decQ, map_decQ]
theorem m30 : Meets Try.prog 30 S30 (R 30) (F 30) := by
  refine meets_of_vt (pre := R) (Φ := F) mixed (sgAt_all (P := Try.prog) (pre := R) (Φ := F) (l := sg30) (fcm ⟨m56, (fun _ h => nomatch h)⟩)) Try.func30 b30 n30 (loops_n 2 k30 fun k hk => match k, hk with | 0, _ => loop_this lf30_0 loopM30_0 | 1, _ => loop_this lf30_1 loopM30_1) e30 fun ds _ hq => ?_
  obtain ⟨g, m, M, K, rfl, h64, h16, hM, hK, hN, hC, hm1, hm2⟩ : withP ds := hq
  have e1 : lpI0 [.l (M.map encQ), .b false, .l g.N, .i (g.N.length : Int), .i 0, .i m, .l (K.map encQ)] = scanN (outN g.N M K m) (fun j => [.i 0, .b false, .i (j : Int)]) (fun j => [.i 1, .b false, .i (j : Int)]) g.N.length 0 := by
    simp only [lpI0, map_decQ, scB, Int.toNat_zero, Nat.sub_zero]
  have e2 : lpI1 [.b false, .l g.C, .i (g.C.length : Int), .i 0, .i m, .l (K.map encQ)] = scanN (outC g.C K m) (fun j => [.i 0, .b false, .i (j : Int)]) (fun j => [.i 1, .b false, .i (j : Int)]) g.C.length 0 := by
    simp only [lpI1, map_decQ, scB, Int.toNat_zero, Nat.sub_zero]
  have p1 : prI0 [.l (M.map encQ), .b false, .l g.N, .i (g.N.length : Int), .i 0, .i m, .l (K.map encQ)] := ⟨_, M, K, g.N, m, 0, rfl, by omega, h64, hM, hN, hm1, hm2⟩
  have p2 : prI1 [.b false, .l g.C, .i (g.C.length : Int), .i 0, .i m, .l (K.map encQ)] := ⟨_, K, g.C, m, 0, rfl, by omega, h16, hK, hC, hm1, hm2⟩
  simp only [vt30, VT.ok, Nd.holds, X.outs, X.ds, X.d, Op1.ev, Op2.ev, List.cons_append, List.nil_append, List.getD_cons_zero, List.getD_cons_succ, D.int_i, D.bool_b, D.lst_l, F13000, R13000, F13001, R13001, F30, e1, withD_eq]
  refine ⟨fun _ => p1, ?_⟩
  rcases scan_any (p := outN g.N M K m) (hit := fun j => [D.i 0, .b false, .i (j : Int)]) (miss := fun j => [D.i 1, .b false, .i (j : Int)]) g.N.length with ⟨k1, j, _, _, _, k2⟩ | ⟨k1, k2⟩
  · rw [k2, withinB, k1]; rfl
  · rw [k2]
    simp only [takeD_zero, takeD_cons, List.cons_append, List.nil_append, List.getD_cons_zero, List.getD_cons_succ, D.int_i, Bool.false_eq_true, if_false, show ((1 : Int) == 0) = false from rfl, e2]
    refine ⟨fun _ => p2, ?_⟩
    rcases scan_any (p := outC g.C K m) (hit := fun j => [D.i 0, .b false, .i (j : Int)]) (miss := fun j => [D.i 1, .b false, .i (j : Int)]) g.C.length with ⟨k3, j, _, _, _, k4⟩ | ⟨k3, k4⟩
    · rw [k4, withinB, k1, k3]; rfl
    · rw [k4, withinB, k1, k3]; rfl
theorem loopM62_0 : LoopMeets Try.prog F (R L62_0.key) L62_0 lb62_0 := by
  refine loop_meets (pre := R) mixed (sgAt_all (P := Try.prog) (pre := R) (Φ := F) (l := sg62) ((fun _ h => nomatch h))) (loops_n 0 lk62_0 fun k hk => by omega) L62_0 (fun ρ => ((ρ.getD 2 default).int + 1).toNat) le62_0 fun ρ _ hq => ?_
  obtain ⟨c, v, k, g, rfl, hat, hrow⟩ : prHas ρ := hq
  have hat0 := hat
  obtain ⟨h1, h2, h3, h4⟩ := hat
  by_cases h0 : 0 ≤ k
  · have hn : k.toNat < g.C.length := by omega
    have hr : (g.C.getD k.toNat []).getD 1 default = .i (cI (el g.C k.toNat) 1) := hrow _ hn
    have hb := h4 k.toNat (by omega)
    by_cases hc : k = c
    · subst hc
      simp (disch := omega) only [rt62_0, VT.ok, X.ds, X.d, Op2.ev, List.getD_cons_zero, List.getD_cons_succ, D.int_i, D.bool_b, ↓reduceIte, dle_t, beq_t]
      refine round_exit (by omega) ?_
      show lpHas [.i k, v, .i k, .s g.nm, .b g.dr, .l g.N, .l g.E, .l g.C] = _
      simp only [lpHas, around_at h0 h4]
      rw [if_pos (by simp)]
    · simp (disch := omega) only [rt62_0, VT.ok, Nd.holds, X.ds, X.d, Op1.ev, Op2.ev, List.getD_cons_zero, List.getD_cons_succ, D.int_i, D.bool_b, D.lst_l, Bool.false_eq_true, implies_true, true_and, ↓reduceIte, dle_t, dlt_t, beq_f, hr]
      refine round_next ⟨⟨c, v, cI (el g.C k.toNat) 1, g, rfl, atC_up hat0 h0, hrow⟩, ?_, ?_⟩
      · show (cI (el g.C k.toNat) 1 + 1).toNat < (k + 1).toNat
        omega
      · show lpHas [.i c, v, .i (cI (el g.C k.toNat) 1), .s g.nm, .b g.dr, .l g.N, .l g.E, .l g.C] = lpHas [.i c, v, .i k, .s g.nm, .b g.dr, .l g.N, .l g.E, .l g.C]
        simp only [lpHas, around_at h0 h4]
        rw [List.contains_cons, show (c == k) = false from beq_f (by omega), Bool.false_or]
  · simp (disch := omega) only [rt62_0, VT.ok, X.ds, X.d, Op2.ev, List.getD_cons_zero, List.getD_cons_succ, D.int_i, D.bool_b, Bool.false_eq_true, ↓reduceIte, dle_f]
    refine round_exit (by omega) ?_
    show lpHas [.i c, v, .i k, .s g.nm, .b g.dr, .l g.N, .l g.E, .l g.C] = _
    have : k = -1 := by omega
    subst this
    simp only [lpHas, around_neg (show (-1 : Int) < 0 by omega)]
    rfl
theorem m62 : Meets Try.prog 62 S62 (R 62) (F 62) := by
  refine meets_of_vt (pre := R) (Φ := F) mixed (sgAt_all (P := Try.prog) (pre := R) (Φ := F) (l := sg62) ((fun _ h => nomatch h))) Try.func62 b62 n62 (loops_n 1 k62 fun k hk => match k, hk with | 0, _ => loop_this lf62_0 loopM62_0) e62 fun ds hf hq => ?_
  obtain ⟨g', ds', e, h5, _, _, _, ⟨_, hC⟩⟩ := fitsG hf.flat
  obtain ⟨g, c, k, rfl, hk, hv⟩ : conP ds := hq
  simp only [List.cons.injEq, D.s.injEq, D.b.injEq, D.l.injEq] at e
  obtain ⟨_, _, _, _, e5, _⟩ := e
  rw [← e5] at hC
  obtain ⟨v1, v2, v3, v4⟩ := valid_okV hv
  have hr : (g.C.getD k []).getD 1 default = .i (cI (el g.C k) 1) := row_i hC rfl hk
  have hb := v3 k hk
  have hpre : prHas [.i c, .b false, .i (cI (el g.C k) 1), .s g.nm, .b g.dr, .l g.N, .l g.E, .l g.C] := ⟨c, _, _, g, rfl, ⟨by omega, by omega, v2, v3.mono (by omega)⟩, rowI1_of hC⟩
  simp (disch := omega) only [vt62, VT.ok, Nd.holds, X.outs, X.ds, X.d, Op1.ev, Op2.ev, List.cons_append, List.nil_append, List.getD_cons_zero, List.getD_cons_succ, D.int_i, D.bool_b, D.lst_l, Int.toNat_natCast, implies_true, true_and, F16200, R16200, F62, dle_t, dlt_t, hr, conD_eq]
  refine ⟨fun _ => hpre, ?_⟩
  show _
  cases h : (around g.C (cP g.C k)).contains c
  · have h' : (around g.C (cI (el g.C k) 1)).contains c = false := h
    simp only [lpHas, h', Bool.false_eq_true, if_false, takeD_zero, takeD_cons, List.getD_cons_zero, List.getD_cons_succ, D.int_i, Bool.false_eq_true, if_false]
    rw [if_neg (by decide)]; trivial
  · have h' : (around g.C (cI (el g.C k) 1)).contains c = true := h
    simp only [lpHas, h', if_true, takeD_zero, takeD_cons, List.getD_cons_zero, List.getD_cons_succ, D.int_i, if_true]
    rw [if_pos (by rfl)]; trivial
end Go.Proofs.Ytindllmeeckfcaa.rv
namespace Go.Proofs.Ytindllmeeckfcaa.rv
set_option maxRecDepth 10000
open Go.RV
theorem loopM31_0 : LoopMeets Try.prog F (R L31_0.key) L31_0 lb31_0 := by
  refine loop_meets (pre := R) mixed (sgAt_all (P := Try.prog) (pre := R) (Φ := F) (l := sg31) (fcm ⟨m25, fcm ⟨m60, fcm ⟨m61, fcm ⟨m18, fcm ⟨m62, (fun _ h => nomatch h)⟩⟩⟩⟩⟩)) (loops_n 0 lk31_0 fun k hk => by omega) L31_0 (fun ρ => ((ρ.getD 3 default).int - (ρ.getD 4 default).int).toNat) le31_0 fun ρ _ hq => ?_
  obtain ⟨v, M, j, rfl, hj, hm⟩ : prV3 ρ := hq
  rw [maxLen_val] at hm
  by_cases hlt : j < M.length
  · have hcf := cfOv (f := 59) (.inl rfl) (M.take j) (M.getD j z4)
    rw [ov_take (by omega)] at hcf
    simp (disch := omega) only [rt31_0, VT.ok, Nd.holds, X.outs, X.ds, X.d, Op1.ev, Op2.ev, takeD_zero, takeD_cons, List.cons_append, List.nil_append, List.getD_cons_zero, List.getD_cons_succ, D.int_i, D.bool_b, D.lst_l, Int.toNat_natCast, List.length_map, implies_true, true_and, F25, R25, ↓reduceIte, dle_t, dlt_t, w64', rowQz, encQ, Int.toNat_zero, List.drop_zero, takeQ, hcf.2]
    refine ⟨fun _ => hcf.1, ?_⟩
    show if ovN M j = true then _ else _
    cases hb : ovN M j
    · simp only [Bool.false_eq_true, if_false]
      refine round_next ⟨⟨v, M, j + 1, rfl, by omega, hm⟩, ?_, ?_⟩
      · show ((M.length : Int) - ((j + 1 : Nat) : Int)).toNat < ((M.length : Int) - (j : Int)).toNat
        omega
      · show lpV3 [.l (M.map encQ), v, .l (M.map encQ), .i (M.length : Int), .i ((j + 1 : Nat) : Int)] = lpV3 [.l (M.map encQ), v, .l (M.map encQ), .i (M.length : Int), .i (j : Int)]
        simp only [lpV3, map_decQ, List.length_map, scB, Int.toNat_natCast]
        exact scan_next hlt hb
    · simp only [if_true]
      refine round_exit (by omega) ?_
      show lpV3 [.l (M.map encQ), v, .l (M.map encQ), .i (M.length : Int), .i (j : Int)] = _
      simp only [lpV3, map_decQ, List.length_map, scB, Int.toNat_natCast]
      exact scan_hit hlt hb
  · have hj' : j = M.length := by omega
    subst hj'
    simp (disch := omega) only [rt31_0, VT.ok, X.ds, X.d, Op2.ev, List.getD_cons_zero, List.getD_cons_succ, D.int_i, D.bool_b, Bool.false_eq_true, ↓reduceIte, dlt_f]
    refine round_exit (by omega) ?_
    show lpV3 [.l (M.map encQ), v, .l (M.map encQ), .i (M.length : Int), .i (M.length : Int)] = _
    simp only [lpV3, map_decQ, List.length_map, scB, Int.toNat_natCast]
    exact scan_end
theorem loopM31_2 : LoopMeets Try.prog F (R L31_2.key) L31_2 lb31_2 := by
  refine loop_meets (pre := R) mixed (sgAt_all (P := Try.prog) (pre := R) (Φ := F) (l := sg31) (fcm ⟨m25, fcm ⟨m60, fcm ⟨m61, fcm ⟨m18, fcm ⟨m62, (fun _ h => nomatch h)⟩⟩⟩⟩⟩)) (loops_n 0 lk31_2 fun k hk => by omega) L31_2 (fun ρ => ((ρ.getD 3 default).int - (ρ.getD 4 default).int).toNat) le31_2 fun ρ _ hq => ?_
  obtain ⟨v, l, M, q, j, rfl, hj, hm⟩ : prMn ρ := hq
  by_cases hlt : j < M.length
  · simp (disch := omega) only [rt31_2, VT.ok, Nd.holds, X.outs, X.ds, X.d, Op1.ev, Op2.ev, takeD_zero, takeD_cons, List.cons_append, List.nil_append, List.getD_cons_zero, List.getD_cons_succ, D.int_i, D.bool_b, D.lst_l, ite_b, ite_and, Int.toNat_natCast, List.length_map, implies_true, true_and, F61, R61, F18, R18, ↓reduceIte, dle_t, dlt_t, w64', rowQz, encQ, ciN_eq, fn18_eq]
    show if (!l.contains j && ovQ (M.getD j z4) q) = true then _ else _
    cases hb : (!l.contains j && ovQ (M.getD j z4) q)
    · simp only [Bool.false_eq_true, if_false]
      refine round_next ⟨⟨v, l, M, q, j + 1, rfl, by omega, hm⟩, ?_, ?_⟩
      · show ((M.length : Int) - ((j + 1 : Nat) : Int)).toNat < ((M.length : Int) - (j : Int)).toNat
        omega
      · show lpMn [v, .l (l.map encN), .l (M.map encQ), .i (M.length : Int), .i ((j + 1 : Nat) : Int), .i q.1, .i q.2.1, .i q.2.2.1, .i q.2.2.2] = lpMn [v, .l (l.map encN), .l (M.map encQ), .i (M.length : Int), .i (j : Int), .i q.1, .i q.2.1, .i q.2.2.1, .i q.2.2.2]
        simp only [lpMn, map_decQ, map_decN, List.length_map, scB, Int.toNat_natCast]
        exact scan_next hlt hb
    · simp only [if_true]
      refine round_exit (by omega) ?_
      show lpMn [v, .l (l.map encN), .l (M.map encQ), .i (M.length : Int), .i (j : Int), .i q.1, .i q.2.1, .i q.2.2.1, .i q.2.2.2] = _
      simp only [lpMn, map_decQ, map_decN, List.length_map, scB, Int.toNat_natCast]
      exact scan_hit hlt hb
  · have hj' : j = M.length := by omega
    subst hj'
    simp (disch := omega) only [rt31_2, VT.ok, X.ds, X.d, Op2.ev, List.getD_cons_zero, List.getD_cons_succ, D.int_i, D.bool_b, Bool.false_eq_true, ↓reduceIte, dlt_f]
    refine round_exit (by omega) ?_
    show lpMn [v, .l (l.map encN), .l (M.map encQ), .i (M.length : Int), .i (M.length : Int), .i q.1, .i q.2.1, .i q.2.2.1, .i q.2.2.2] = _
    simp only [lpMn, map_decQ, map_decN, List.length_map, scB, Int.toNat_natCast]
    exact scan_end
theorem loopM31_3 : LoopMeets Try.prog F (R L31_3.key) L31_3 lb31_3 := by
  refine loop_meets (pre := R) mixed (sgAt_all (P := Try.prog) (pre := R) (Φ := F) (l := sg31) (fcm ⟨m25, fcm ⟨m60, fcm ⟨m61, fcm ⟨m18, fcm ⟨m62, (fun _ h => nomatch h)⟩⟩⟩⟩⟩)) (loops_n 0 lk31_3 fun k hk => by omega) L31_3 (fun ρ => ((ρ.getD 3 default).int - (ρ.getD 4 default).int).toNat) le31_3 fun ρ _ hq => ?_
  obtain ⟨v, c, K, q, g, j, rfl, hj, hK, hc, hv⟩ : prMc ρ := hq
  obtain ⟨_, v16⟩ := valid_len hv
  by_cases hlt : j < K.length
  · have h1 : conP [.s g.nm, .b g.dr, .l g.N, .l g.E, .l g.C, .i (j : Int), .i (c : Int)] := ⟨g, _, c, rfl, hc, hv⟩
    have h2 : conP [.s g.nm, .b g.dr, .l g.N, .l g.E, .l g.C, .i (c : Int), .i (j : Int)] := ⟨g, _, j, rfl, by omega, hv⟩
    simp (disch := omega) only [rt31_3, VT.ok, Nd.holds, X.outs, X.ds, X.d, Op1.ev, Op2.ev, takeD_zero, takeD_cons, List.cons_append, List.nil_append, List.getD_cons_zero, List.getD_cons_succ, D.int_i, D.bool_b, D.lst_l, ite_b, ite_and, Int.toNat_natCast, List.length_map, implies_true, true_and, F18, R18, F62, R62, ↓reduceIte, dle_t, dlt_t, w64', rowQz, encQ, conD_eq, fn18_eq]
    refine ⟨fun _ => h1, fun _ => h2, ?_⟩
    show if ((!(around g.C (cP g.C c)).contains (j : Int) && !(around g.C (cP g.C j)).contains (c : Int)) && ovQ (K.getD j z4) q) = true then _ else _
    cases hb : ((!(around g.C (cP g.C c)).contains (j : Int) && !(around g.C (cP g.C j)).contains (c : Int)) && ovQ (K.getD j z4) q)
    · simp only [Bool.false_eq_true, if_false]
      refine round_next ⟨⟨v, c, K, q, g, j + 1, rfl, by omega, hK, hc, hv⟩, ?_, ?_⟩
      · show ((K.length : Int) - ((j + 1 : Nat) : Int)).toNat < ((K.length : Int) - (j : Int)).toNat
        omega
      · show lpMc [v, .i (c : Int), .l (K.map encQ), .i (K.length : Int), .i ((j + 1 : Nat) : Int), .s g.nm, .b g.dr, .l g.N, .l g.E, .l g.C, .i q.1, .i q.2.1, .i q.2.2.1, .i q.2.2.2] = lpMc [v, .i (c : Int), .l (K.map encQ), .i (K.length : Int), .i (j : Int), .s g.nm, .b g.dr, .l g.N, .l g.E, .l g.C, .i q.1, .i q.2.1, .i q.2.2.1, .i q.2.2.2]
        simp only [lpMc, map_decQ, List.length_map, scB, Int.toNat_natCast]
        exact scan_next hlt hb
    · simp only [if_true]
      refine round_exit (by omega) ?_
      show lpMc [v, .i (c : Int), .l (K.map encQ), .i (K.length : Int), .i (j : Int), .s g.nm, .b g.dr, .l g.N, .l g.E, .l g.C, .i q.1, .i q.2.1, .i q.2.2.1, .i q.2.2.2] = _
      simp only [lpMc, map_decQ, List.length_map, scB, Int.toNat_natCast]
      exact scan_hit hlt hb
  · have hj' : j = K.length := by omega
    subst hj'
    simp (disch := omega) only [rt31_3, VT.ok, X.ds, X.d, Op2.ev, List.getD_cons_zero, List.getD_cons_succ, D.int_i, D.bool_b, Bool.false_eq_true, ↓reduceIte, dlt_f]
    refine round_exit (by omega) ?_
    show lpMc [v, .i (c : Int), .l (K.map encQ), .i (K.length : Int), .i (K.length : Int), .s g.nm, .b g.dr, .l g.N, .l g.E, .l g.C, .i q.1, .i q.2.1, .i q.2.2.1, .i q.2.2.2] = _
    simp only [lpMc, map_decQ, List.length_map, scB, Int.toNat_natCast]
    exact scan_end
theorem lies_lt {C : List (List D)} {c d : Nat} (hok : okC C C.length) (hc : c < C.length) (hd : d < c) : lies C c d = (around C (cP C c)).contains (d : Int) := by
  unfold lies
  rw [ar_at hok (by omega) (by omega), List.contains_cons, show ((d : Int) == (c : Int)) = false from beq_f (by omega), Bool.false_or, Int.toNat_natCast]
theorem lies_gt {C : List (List D)} {c d : Nat} (hok : okC C C.length) (hc : c < C.length) (hd : d < c) : lies C d c = (around C (cP C d)).contains (c : Int) := by
  unfold lies
  rw [ar_at hok (by omega) (by omega), List.contains_cons, show ((c : Int) == (d : Int)) = false from beq_f (by omega), Bool.false_or, Int.toNat_natCast]
theorem getD_takeQ {l : List Bx} {i j : Nat} (h : i < j) : (l.take j).getD i z4 = l.getD i z4 := by
  simp only [List.getD]
  rw [List.getElem?_take, if_pos h]
theorem mixC_take {g : Gd} (hv : validE g = 0) {K : List Bx} {j : Nat} (hK : K.length = g.C.length) (hj : j < K.length) :
    anyN (fun k => (!(around g.C (cP g.C j)).contains (k : Int) && !(around g.C (cP g.C k)).contains (j : Int)) && ovQ ((K.take j).getD k z4) (K.getD j z4)) (K.take j).length = anyN (mixC g.C K j) j := by
  rw [List.length_take, Nat.min_eq_left (by omega)]
  obtain ⟨_, _, v3, _⟩ := valid_okV hv
  refine anyN_congr fun k hk => ?_
  simp only [mixC]
  rw [lies_lt v3 (by omega) hk, lies_gt v3 (by omega) hk, getD_takeQ hk]
theorem mixN_mem {g : Gd} {M K : List Bx} {j : Nat} (hM : M.length = g.N.length) : anyN (fun w => !(memL g j).contains w && ovQ (M.getD w z4) (K.getD j z4)) M.length = anyN (mixN g.N g.C M K j) M.length := by
  refine anyN_congr fun k hk => ?_
  simp only [mixN, memL]
  rw [pick_has (by omega)]
theorem lpMn_eq (v : D) (l : List Nat) (M : List Bx) (q : Bx) : lpMn [v, .l (l.map encN), .l (M.map encQ), .i (M.length : Int), .i 0, .i q.1, .i q.2.1, .i q.2.2.1, .i q.2.2.2] = scanN (fun w => !l.contains w && ovQ (M.getD w z4) q) (fun j => [.i 0, .b false, .i (j : Int)]) (fun j => [.i 1, v, .i (j : Int)]) M.length 0 := by
  simp only [lpMn, map_decQ, map_decN, List.length_map, scB, Int.toNat_zero, Nat.sub_zero]
theorem lpMc_eq (v : D) (c : Nat) (K : List Bx) (q : Bx) (g : Gd) (n : Int) : lpMc [v, .i (c : Int), .l (K.map encQ), .i n, .i 0, .s g.nm, .b g.dr, .l g.N, .l g.E, .l g.C, .i q.1, .i q.2.1, .i q.2.2.1, .i q.2.2.2] = scanN (fun k => (!(around g.C (cP g.C c)).contains (k : Int) && !(around g.C (cP g.C k)).contains (c : Int)) && ovQ (K.getD k z4) q) (fun j => [.i 0, .b false, .i (j : Int)]) (fun j => [.i 1, v, .i (j : Int)]) K.length 0 := by
  simp only [lpMc, map_decQ, List.length_map, scB, Int.toNat_zero, Nat.sub_zero, Int.toNat_natCast]
theorem lpMx_eq (v : D) (M K : List Bx) (g : Gd) (j : Nat) : lpMx [.l (M.map encQ), .l (K.map encQ), v, .l (K.map encQ), .i (K.length : Int), .i (j : Int), .s g.nm, .b g.dr, .l g.N, .l g.E, .l g.C] = scanN (mixAny g.N g.C M K) (fun j => [.i 0, .b false, .i (j : Int)]) (fun j => [.i 1, v, .i (j : Int)]) (K.length - j) j := by
  simp only [lpMx, map_decQ, List.length_map, scB, Int.toNat_natCast]
theorem loopM31_1 : LoopMeets Try.prog F (R L31_1.key) L31_1 lb31_1 := by
  refine loop_meets (pre := R) mixed (sgAt_all (P := Try.prog) (pre := R) (Φ := F) (l := sg31) (fcm ⟨m25, fcm ⟨m60, fcm ⟨m61, fcm ⟨m18, fcm ⟨m62, (fun _ h => nomatch h)⟩⟩⟩⟩⟩)) (loops_n 2 lk31_1 fun k hk => match k, hk with | 0, _ => by rw [li31_1_0]; exact loop_this lf31_2 loopM31_2 | 1, _ => by rw [li31_1_1]; exact loop_this lf31_3 loopM31_3) L31_1 (fun ρ => ((ρ.getD 4 default).int - (ρ.getD 5 default).int).toNat) le31_1 fun ρ _ hq => ?_
  obtain ⟨v, M, K, g, j, rfl, hj, hv, hM, hK⟩ : prMx ρ := hq
  obtain ⟨v1, v2⟩ := valid_len hv
  by_cases hlt : j < K.length
  · have hhit : mixAny g.N g.C M K j = true → RoundOk F (R L31_1.key) (fun ρ => ((ρ.getD 4 default).int - (ρ.getD 5 default).int).toNat) L31_1 [.l (M.map encQ), .l (K.map encQ), v, .l (K.map encQ), .i (K.length : Int), .i (j : Int), .s g.nm, .b g.dr, .l g.N, .l g.E, .l g.C] [.i 0, .b false, .i (j : Int)] := fun h => by
      refine round_exit (by omega) ?_
      rw [show F L31_1.key = lpMx from rfl, lpMx_eq]
      exact scan_hit hlt h
    have hmiss : mixAny g.N g.C M K j = false → RoundOk F (R L31_1.key) (fun ρ => ((ρ.getD 4 default).int - (ρ.getD 5 default).int).toNat) L31_1 [.l (M.map encQ), .l (K.map encQ), v, .l (K.map encQ), .i (K.length : Int), .i (j : Int), .s g.nm, .b g.dr, .l g.N, .l g.E, .l g.C] [.i (-1), v, .i ((j + 1 : Nat) : Int)] := fun h => by
      refine round_next ⟨⟨v, M, K, g, j + 1, rfl, by omega, hv, hM, hK⟩, ?_, ?_⟩
      · show ((K.length : Int) - ((j + 1 : Nat) : Int)).toNat < ((K.length : Int) - (j : Int)).toNat
        omega
      · show lpMx [.l (M.map encQ), .l (K.map encQ), v, .l (K.map encQ), .i (K.length : Int), .i ((j + 1 : Nat) : Int), .s g.nm, .b g.dr, .l g.N, .l g.E, .l g.C] = lpMx [.l (M.map encQ), .l (K.map encQ), v, .l (K.map encQ), .i (K.length : Int), .i (j : Int), .s g.nm, .b g.dr, .l g.N, .l g.E, .l g.C]
        rw [lpMx_eq, lpMx_eq]
        exact scan_next hlt h
    have hmem := memD_eq (g := g) hv (c := j) (by omega)
    have hp1 : ∀ v : D, prMn [v, .l ((memL g j).map encN), .l (M.map encQ), .i (M.length : Int), .i 0, .i (K.getD j z4).1, .i (K.getD j z4).2.1, .i (K.getD j z4).2.2.1, .i (K.getD j z4).2.2.2] := fun v => ⟨v, memL g j, M, K.getD j z4, 0, rfl, by omega, by omega⟩
    have hlen : (K.take j).length = j := by rw [List.length_take]; omega
    have hp2 : ∀ v : D, prMc [v, .i (j : Int), .l ((K.take j).map encQ), .i ((K.take j).length : Int), .i 0, .s g.nm, .b g.dr, .l g.N, .l g.E, .l g.C, .i (K.getD j z4).1, .i (K.getD j z4).2.1, .i (K.getD j z4).2.2.1, .i (K.getD j z4).2.2.2] := fun v => ⟨v, j, K.take j, K.getD j z4, g, 0, rfl, by omega, hlen, by omega, hv⟩
    simp (disch := omega) only [rt31_1, VT.ok, Nd.holds, X.outs, X.ds, X.d, Op1.ev, Op2.ev, takeD_zero, takeD_cons, List.cons_append, List.nil_append, List.getD_cons_zero, List.getD_cons_succ, D.int_i, D.bool_b, D.lst_l, Int.toNat_natCast, List.length_map, implies_true, true_and, F60, R60, F13101, R13101, F13102, R13102, ↓reduceIte, dle_t, dlt_t, w64', rowQz, encQ, hmem, lpMn_eq, Int.toNat_zero, List.drop_zero, takeQ]
    refine ⟨fun _ => hp1 _, ?_⟩
    rcases scan_any (p := fun w => !(memL g j).contains w && ovQ (M.getD w z4) (K.getD j z4)) (hit := fun j => [D.i 0, .b false, .i (j : Int)]) (miss := fun j => [D.i 1, v, .i (j : Int)]) M.length with ⟨h1, k, _, _, _, h2⟩ | ⟨h1, h2⟩
    · rw [mixN_mem hM] at h1
      rw [h2]
      simp only [takeD_zero, takeD_cons, List.cons_append, List.nil_append, List.getD_cons_zero, List.getD_cons_succ, D.int_i, if_true, show ((0 : Int) == 0) = true from rfl]
      exact hhit (by rw [mixAny, h1]; rfl)
    · rw [mixN_mem hM] at h1
      rw [h2]
      simp only [takeD_zero, takeD_cons, List.cons_append, List.nil_append, List.getD_cons_zero, List.getD_cons_succ, D.int_i, Bool.false_eq_true, if_false, show ((1 : Int) == 0) = false from rfl, lpMc_eq]
      refine ⟨fun _ => hp2 _, ?_⟩
      rcases scan_any (p := fun k => (!(around g.C (cP g.C j)).contains (k : Int) && !(around g.C (cP g.C k)).contains (j : Int)) && ovQ ((K.take j).getD k z4) (K.getD j z4)) (hit := fun j => [D.i 0, .b false, .i (j : Int)]) (miss := fun j => [D.i 1, v, .i (j : Int)]) (K.take j).length with ⟨h3, k, _, _, _, h4⟩ | ⟨h3, h4⟩
      · rw [mixC_take hv hK hlt] at h3
        rw [h4]
        simp only [takeD_zero, takeD_cons, List.getD_cons_zero, List.getD_cons_succ, D.int_i, if_true, show ((0 : Int) == 0) = true from rfl]
        exact hhit (by rw [mixAny, h3, Bool.or_true])
      · rw [mixC_take hv hK hlt] at h3
        rw [h4]
        simp only [takeD_zero, takeD_cons, List.getD_cons_zero, List.getD_cons_succ, D.int_i, Bool.false_eq_true, if_false, show ((1 : Int) == 0) = false from rfl]
        exact hmiss (by rw [mixAny, h1, h3]; rfl)
  · have hj : j = K.length := by omega
    subst hj
    simp (disch := omega) only [rt31_1, VT.ok, X.ds, X.d, Op2.ev, List.getD_cons_zero, List.getD_cons_succ, D.int_i, D.bool_b, Bool.false_eq_true, ↓reduceIte, dlt_f]
    refine round_exit (by omega) ?_
    rw [show F L31_1.key = lpMx from rfl, lpMx_eq]
    exact scan_end
theorem apD_eq (g : Gd) (M K : List Bx) : apD [.s g.nm, .b g.dr, .l g.N, .l g.E, .l g.C, .l (M.map encQ), .l (K.map encQ)] = [.b (!overB g M K)] := by
  show [D.b (!overB g ((M.map encQ).map decQ) ((K.map encQ).map decQ))] = _
  rw [map_decQ, map_decQ]
theorem m31 : Meets Try.prog 31 S31 (R 31) (F 31) := by
  refine meets_of_vt (pre := R) (Φ := F) mixed (sgAt_all (P := Try.prog) (pre := R) (Φ := F) (l := sg31) (fcm ⟨m25, fcm ⟨m60, fcm ⟨m61, fcm ⟨m18, fcm ⟨m62, (fun _ h => nomatch h)⟩⟩⟩⟩⟩)) Try.func31 b31 n31 (loops_n 4 k31 fun k hk => match k, hk with | 0, _ => loop_this lf31_0 loopM31_0 | 1, _ => loop_this lf31_1 loopM31_1 | 2, _ => loop_this lf31_2 loopM31_2 | 3, _ => loop_this lf31_3 loopM31_3) e31 fun ds _ hq => ?_
  obtain ⟨g, M, K, rfl, hv, hM, hK⟩ : apP ds := hq
  obtain ⟨v1, v2⟩ := valid_len hv
  have e1 : lpV3 [.l (M.map encQ), .b false, .l (M.map encQ), .i (M.length : Int), .i 0] = scanN (ovN M) (fun j => [.i 0, .b false, .i (j : Int)]) (fun j => [.i 1, .b false, .i (j : Int)]) M.length 0 := by
    simp only [lpV3, map_decQ, List.length_map, scB, Int.toNat_zero, Nat.sub_zero]
  have e2 := lpMx_eq (.b false) M K g 0
  have p1 : prV3 [.l (M.map encQ), .b false, .l (M.map encQ), .i (M.length : Int), .i 0] := ⟨_, M, 0, rfl, by omega, by rw [maxLen_val]; omega⟩
  have p2 : prMx [.l (M.map encQ), .l (K.map encQ), .b false, .l (K.map encQ), .i (K.length : Int), .i 0, .s g.nm, .b g.dr, .l g.N, .l g.E, .l g.C] := ⟨_, M, K, g, 0, rfl, by omega, hv, hM, hK⟩
  simp only [Int.natCast_zero, Nat.sub_zero] at e2
  simp only [vt31, VT.ok, Nd.holds, X.outs, X.ds, X.d, Op1.ev, Op2.ev, List.cons_append, List.nil_append, List.getD_cons_zero, List.getD_cons_succ, D.int_i, D.bool_b, D.lst_l, List.length_map, F13100, R13100, F13103, R13103, F31, e1, apD_eq]
  refine ⟨fun _ => p1, ?_⟩
  rcases scan_any (p := ovN M) (hit := fun j => [D.i 0, .b false, .i (j : Int)]) (miss := fun j => [D.i 1, .b false, .i (j : Int)]) M.length with ⟨k1, j, _, _, _, k2⟩ | ⟨k1, k2⟩
  · rw [k2, overB, k1]; rfl
  · rw [k2]
    simp only [takeD_zero, takeD_cons, List.cons_append, List.nil_append, List.getD_cons_zero, List.getD_cons_succ, D.int_i, Bool.false_eq_true, if_false, show ((1 : Int) == 0) = false from rfl, e2]
    refine ⟨fun _ => p2, ?_⟩
    rcases scan_any (p := mixAny g.N g.C M K) (hit := fun j => [D.i 0, .b false, .i (j : Int)]) (miss := fun j => [D.i 1, .b false, .i (j : Int)]) K.length with ⟨k3, j, _, _, _, k4⟩ | ⟨k3, k4⟩
    · rw [k4, overB, k1, k3]; rfl
    · rw [k4, overB, k1, k3]; rfl
theorem badL_ok {B : List Bx} (h : badL B = false) : ∀ b ∈ B, bxQ b = true := fun b hb => by
  obtain ⟨i, hi, rfl⟩ := List.getElem_of_mem hb
  have := anyN_false.1 h i hi
  simpa [List.getD, hi] using this
theorem loopM11_0 : LoopMeets Try.prog F (R L11_0.key) L11_0 lb11_0 := by
  refine loop_meets (pre := R) mixed (sgAt_all (P := Try.prog) (pre := R) (Φ := F) (l := sg11) (fcm ⟨m26, fcm ⟨m28, fcm ⟨m25, fcm ⟨m29, fcm ⟨m30, fcm ⟨m31, (fun _ h => nomatch h)⟩⟩⟩⟩⟩⟩)) (loops_n 0 lk11_0 fun k hk => by omega) L11_0 (fun ρ => ((ρ.getD 2 default).int - (ρ.getD 3 default).int).toNat) le11_0 fun ρ _ hq => ?_
  obtain ⟨v, M, g, j, rfl, hj, hN, h64, hs⟩ : prSs ρ := hq
  by_cases hlt : j < M.length
  · have he := fnE_eq (M.getD j z4) (hs _ (getD_mem z4 hlt))
    simp (disch := omega) only [rt11_0, VT.ok, Nd.holds, X.outs, X.ds, X.d, Op1.ev, Op2.ev, takeD_zero, takeD_cons, List.cons_append, List.nil_append, List.getD_cons_zero, List.getD_cons_succ, D.int_i, D.bool_b, D.lst_l, ite_b, ite_and, Int.toNat_natCast, List.length_map, implies_true, true_and, F29, R29, ↓reduceIte, dle_t, dlt_t, w64', rowQz, encQ, he, Bool.not_and]
    show if badS g.N M j = true then _ else _
    cases hb : badS g.N M j
    · simp only [Bool.false_eq_true, if_false]
      refine round_next ⟨⟨v, M, g, j + 1, rfl, by omega, hN, h64, hs⟩, ?_, ?_⟩
      · show ((M.length : Int) - ((j + 1 : Nat) : Int)).toNat < ((M.length : Int) - (j : Int)).toNat
        omega
      · show lpSs [v, .l (M.map encQ), .i (M.length : Int), .i ((j + 1 : Nat) : Int), .s g.nm, .b g.dr, .l g.N, .l g.E, .l g.C] = lpSs [v, .l (M.map encQ), .i (M.length : Int), .i (j : Int), .s g.nm, .b g.dr, .l g.N, .l g.E, .l g.C]
        simp only [lpSs, map_decQ, List.length_map, scB, Int.toNat_natCast]
        exact scan_next hlt hb
    · simp only [if_true]
      refine round_exit (by omega) ?_
      show lpSs [v, .l (M.map encQ), .i (M.length : Int), .i (j : Int), .s g.nm, .b g.dr, .l g.N, .l g.E, .l g.C] = _
      simp only [lpSs, map_decQ, List.length_map, scB, Int.toNat_natCast]
      exact scan_hit hlt hb
  · have hj' : j = M.length := by omega
    subst hj'
    simp (disch := omega) only [rt11_0, VT.ok, X.ds, X.d, Op2.ev, List.getD_cons_zero, List.getD_cons_succ, D.int_i, D.bool_b, Bool.false_eq_true, ↓reduceIte, dlt_f]
    refine round_exit (by omega) ?_
    show lpSs [v, .l (M.map encQ), .i (M.length : Int), .i (M.length : Int), .s g.nm, .b g.dr, .l g.N, .l g.E, .l g.C] = _
    simp only [lpSs, map_decQ, List.length_map, scB, Int.toNat_natCast]
    exact scan_end
theorem chD_eq (g : Gd) (o : Od) (M K : List Bx) : chD [.s g.nm, .b g.dr, .l g.N, .l g.E, .l g.C, .i o.md, .i o.ns, .i o.rs, .i o.m, .i o.rd, .l (M.map encQ), .l (K.map encQ)] = [.i (chkE g o M K)] := by
  show [D.i (chkE g o ((M.map encQ).map decQ) ((K.map encQ).map decQ))] = _
  rw [map_decQ, map_decQ]
theorem lpSs_eq (M : List Bx) (g : Gd) : lpSs [.i 0, .l (M.map encQ), .i (M.length : Int), .i 0, .s g.nm, .b g.dr, .l g.N, .l g.E, .l g.C] = scanN (badS g.N M) (fun j => [.i 0, .i 13, .i (j : Int)]) (fun j => [.i 1, .i 0, .i (j : Int)]) M.length 0 := by
  simp only [lpSs, map_decQ, List.length_map, scB, Int.toNat_zero, Nat.sub_zero]
theorem chkE_err {g : Gd} {o : Od} {M K : List Bx} (h : ¬ validE g = 0) : chkE g o M K = validE g := by rw [chkE, if_neg h]
theorem lenB {a b : Nat} : (((a : Int) == (b : Int))) = (a == b) := by
  rw [Bool.eq_iff_iff]; simp only [beq_iff_eq]; omega
theorem chkE_len {g : Gd} {o : Od} {M K : List Bx} (h1 : validE g = 0) (h2 : o.ok = true) (h : ((!(M.length == g.N.length) || !(K.length == g.C.length)) || (badL M || badL K)) = true) : chkE g o M K = 1 := by
  rw [chkE, if_pos h1, if_pos h2, if_pos h]
theorem m11 : Meets Try.prog 11 S11 (R 11) (F 11) := by
  refine meets_of_vt (pre := R) (Φ := F) mixed (sgAt_all (P := Try.prog) (pre := R) (Φ := F) (l := sg11) (fcm ⟨m26, fcm ⟨m28, fcm ⟨m25, fcm ⟨m29, fcm ⟨m30, fcm ⟨m31, (fun _ h => nomatch h)⟩⟩⟩⟩⟩⟩)) Try.func11 b11 n11 (loops_n 1 k11 fun k hk => match k, hk with | 0, _ => loop_this lf11_0 loopM11_0) e11 fun ds hf _ => ?_
  obtain ⟨g, o, M, ds', rfl, h0, hm, _⟩ := fitsGO hf.flat
  obtain ⟨x, rfl, hx⟩ := fits1 h0
  obtain ⟨K, rfl, hk, _⟩ := slQ hx
  have hv : validD [.s g.nm, .b g.dr, .l g.N, .l g.E, .l g.C] = [.i (validE g)] := rfl
  have ho := fn28_eq o.md o.ns o.rs o.m o.rd
  obtain ⟨cM1, cM2⟩ := cfBad (f := 27) (.inr rfl) M
  obtain ⟨cK1, cK2⟩ := cfBad (f := 27) (.inr rfl) K
  simp only [vt11, VT.ok, Nd.holds, X.outs, X.ds, X.d, Op1.ev, Op2.ev, takeD_zero, takeD_cons, List.cons_append, List.nil_append, List.getD_cons_zero, List.getD_cons_succ, D.int_i, D.bool_b, D.lst_l, List.length_map, implies_true, true_and, F26, R26, F28, R28, F25, R25, F11100, R11100, F30, R30, F31, R31, F11, hv, ho, chD_eq, cM2, cK2, lenB]
  by_cases h1 : validE g = 0
  · obtain ⟨v1, v2⟩ := valid_len h1
    obtain ⟨_, _, v3, v4⟩ := valid_okV h1
    have hb : (!(validE g == 0)) = false := by simp [h1]
    simp only [hb, Bool.false_eq_true, if_false]
    by_cases h2 : o.ok = true
    · have h2' := Od.ok_iff.1 h2
      simp only [show (Od.ok ⟨o.md, o.ns, o.rs, o.m, o.rd⟩) = true from h2, Bool.not_true, Bool.false_eq_true, if_false]
      by_cases h3 : (M.length == g.N.length) = true
      · by_cases h4 : (K.length == g.C.length) = true
        · simp only [h3, h4, Bool.not_true, Bool.false_eq_true, if_false]
          refine ⟨fun _ => cM1, ?_⟩
          cases h5 : badL M
          · simp only [Bool.false_eq_true, if_false]
            refine ⟨fun _ => cK1, ?_⟩
            cases h6 : badL K
            · have hM : M.length = g.N.length := by simpa using h3
              have hK : K.length = g.C.length := by simpa using h4
              have hE : chkE g o M K = if anyN (badS g.N M) M.length = true then 13 else if withinB g o.m M K = true then (if overB g M K = true then 14 else 0) else 3 := by
                rw [chkE, if_pos h1, if_pos h2, if_neg (by rw [h3, h4, h5, h6]; decide)]
              have p1 : prSs [.i 0, .l (M.map encQ), .i (M.length : Int), .i 0, .s g.nm, .b g.dr, .l g.N, .l g.E, .l g.C] := ⟨.i 0, M, g, 0, rfl, by omega, by omega, by omega, fun q hq => smQ_of (badL_ok h5 q hq)⟩
              have p2 : withP [.s g.nm, .b g.dr, .l g.N, .l g.E, .l g.C, .i o.m, .l (M.map encQ), .l (K.map encQ)] := ⟨g, o.m, M, K, rfl, by omega, by omega, by omega, by omega, fun v hv => by have := v4 v hv; rw [hK]; exact this, fun c hc => ⟨(v3 c hc).1, Int.lt_trans (v3 c hc).2 (by omega)⟩, by omega, by omega⟩
              have p3 : apP [.s g.nm, .b g.dr, .l g.N, .l g.E, .l g.C, .l (M.map encQ), .l (K.map encQ)] := ⟨g, M, K, rfl, h1, hM, hK⟩
              simp only [Bool.false_eq_true, if_false, lpSs_eq]
              refine ⟨fun _ => p1, ?_⟩
              rw [hE]
              rcases scan_any (p := badS g.N M) (hit := fun j => [D.i 0, .i 13, .i (j : Int)]) (miss := fun j => [D.i 1, .i 0, .i (j : Int)]) M.length with ⟨k1, j, _, _, _, k2⟩ | ⟨k1, k2⟩
              · rw [k2, if_pos k1]
                simp only [takeD_zero, takeD_cons, List.cons_append, List.nil_append, List.getD_cons_zero, List.getD_cons_succ, D.int_i, if_true, takeD1_0, show ((0 : Int) == 0) = true from rfl]
              · rw [k2, if_neg (c := anyN (badS g.N M) M.length = true) (by rw [k1]; decide)]
                simp only [takeD_zero, takeD_cons, List.cons_append, List.nil_append, List.getD_cons_zero, List.getD_cons_succ, D.int_i, D.bool_b, Bool.false_eq_true, if_false, show ((1 : Int) == 0) = false from rfl, withD_eq, apD_eq]
                refine ⟨fun _ => p2, ?_⟩
                cases h7 : withinB g o.m M K
                · simp only [Bool.not_false, if_true, Bool.false_eq_true, if_false]
                · simp only [Bool.not_true, Bool.false_eq_true, if_false, if_true]
                  refine ⟨fun _ => p3, ?_⟩
                  cases h8 : overB g M K <;> rfl
            · simp only [if_true]
              rw [chkE_len h1 h2 (by rw [h6]; simp)]
          · simp only [if_true]
            rw [chkE_len h1 h2 (by rw [h5]; simp)]
        · have h4' := Bool.eq_false_iff.2 h4
          simp only [h3, h4', Bool.not_true, Bool.not_false, Bool.false_eq_true, if_false, if_true]
          rw [chkE_len h1 h2 (by rw [h4']; simp)]
      · have h3' := Bool.eq_false_iff.2 h3
        simp only [h3', Bool.not_false, if_true]
        rw [chkE_len h1 h2 (by rw [h3']; simp)]
    · have h2' : Od.ok ⟨o.md, o.ns, o.rs, o.m, o.rd⟩ = false := Bool.eq_false_iff.2 h2
      simp only [h2', Bool.not_false, if_true]
      rw [chkE, if_pos h1, if_neg h2]
  · have hb : (!(validE g == 0)) = true := by simp [h1]
    rw [if_pos hb, chkE_err h1]
end Go.Proofs.Ytindllmeeckfcaa.rv
namespace Go.Proofs.Ytindllmeeckfcaa.rv
set_option maxRecDepth 10000
open Go.RV
theorem loopM37_0 : LoopMeets Try.prog F (R L37_0.key) L37_0 lb37_0 := by
  refine loop_meets (pre := R) mixed (sgAt_all (P := Try.prog) (pre := R) (Φ := F) (l := sg37) ((fun _ h => nomatch h))) (loops_n 0 lk37_0 fun k hk => by omega) L37_0 (fun ρ => (((ρ.getD 0 default).lst.length : Int) - (ρ.getD 3 default).int).toNat) le37_0 fun ρ _ hq => ?_
  obtain ⟨xs, ys, v, j, rfl, hj, hm, hl⟩ : prS4 ρ := hq
  rw [maxLen_val] at hm
  by_cases hlt : j < xs.length
  · simp (disch := omega) only [rt37_0, VT.ok, Nd.holds, X.ds, X.d, Op1.ev, Op2.ev, List.getD_cons_zero, List.getD_cons_succ, D.int_i, D.bool_b, D.lst_l, ite_b, ite_and, Int.toNat_natCast, implies_true, true_and, ↓reduceIte, dle_t, dlt_t, w64']
    show if (!same4 (el xs j) (el ys j)) = true then _ else _
    cases hb : (!same4 (el xs j) (el ys j))
    · simp only [Bool.false_eq_true, if_false]
      refine round_next ⟨⟨xs, ys, v, j + 1, rfl, by omega, hm, hl⟩, ?_, ?_⟩
      · show ((xs.length : Int) - ((j + 1 : Nat) : Int)).toNat < ((xs.length : Int) - (j : Int)).toNat
        omega
      · show lpS4 [.l xs, .l ys, v, .i ((j + 1 : Nat) : Int)] = lpS4 [.l xs, .l ys, v, .i (j : Int)]
        simp only [lpS4, scB, Int.toNat_natCast]
        exact scan_next hlt hb
    · simp only [if_true]
      refine round_exit (by omega) ?_
      show lpS4 [.l xs, .l ys, v, .i (j : Int)] = _
      simp only [lpS4, scB, Int.toNat_natCast]
      exact scan_hit hlt hb
  · have hj' : j = xs.length := by omega
    subst hj'
    simp (disch := omega) only [rt37_0, VT.ok, X.ds, X.d, Op1.ev, Op2.ev, List.getD_cons_zero, List.getD_cons_succ, D.int_i, D.bool_b, D.lst_l, Bool.false_eq_true, ↓reduceIte, dlt_f]
    refine round_exit (by omega) ?_
    show lpS4 [.l xs, .l ys, v, .i (xs.length : Int)] = _
    simp only [lpS4, scB, Int.toNat_natCast]
    exact scan_end
theorem sameLD_eq (xs ys : List (List D)) : sameLD [.l xs, .l ys] = [.b (eqR same4 xs ys)] := rfl
theorem lpS4_eq (xs ys : List (List D)) : lpS4 [.l xs, .l ys, .b false, .i 0] = scanN (fun j => !same4 (el xs j) (el ys j)) (fun j => [.i 0, .b false, .i (j : Int)]) (fun j => [.i 1, .b false, .i (j : Int)]) xs.length 0 := by
  simp only [lpS4, scB, Int.toNat_zero, Nat.sub_zero]
theorem m37 : Meets Try.prog 37 S37 (R 37) (F 37) := by
  refine meets_of_vt (pre := R) (Φ := F) mixed (sgAt_all (P := Try.prog) (pre := R) (Φ := F) (l := sg37) ((fun _ h => nomatch h))) Try.func37 b37 n37 (loops_n 1 k37 fun k hk => match k, hk with | 0, _ => loop_this lf37_0 loopM37_0) e37 fun ds hf _ => ?_
  obtain ⟨x, y, rfl, hx, hy⟩ := fits2 hf.flat
  obtain ⟨xs, rfl, hm, _⟩ := wf_sl hx
  obtain ⟨ys, rfl, hm', _⟩ := wf_sl hy
  by_cases hl : ys.length = xs.length
  · have hpre : prS4 [.l xs, .l ys, .b false, .i 0] := ⟨xs, ys, _, 0, rfl, by omega, hm, hl⟩
    simp (disch := omega) only [vt37, VT.ok, Nd.holds, X.outs, X.ds, X.d, Op1.ev, Op2.ev, List.cons_append, List.nil_append, List.getD_cons_zero, List.getD_cons_succ, D.int_i, D.bool_b, D.lst_l, Bool.false_eq_true, F13700, R13700, F37, ↓reduceIte, beq_t, Bool.not_true, lpS4_eq, sameLD_eq]
    refine ⟨fun _ => hpre, ?_⟩
    rcases scan_any (p := fun j => !same4 (el xs j) (el ys j)) (hit := fun j => [D.i 0, .b false, .i (j : Int)]) (miss := fun j => [D.i 1, .b false, .i (j : Int)]) xs.length with ⟨k1, j, _, _, _, k2⟩ | ⟨k1, k2⟩
    · rw [k2, eqR, k1, Bool.not_true, Bool.and_false]; rfl
    · rw [k2, eqR, k1, show ((xs.length : Int) == (ys.length : Int)) = true from beq_t (by omega)]; rfl
  · simp (disch := omega) only [vt37, VT.ok, X.ds, X.d, Op1.ev, Op2.ev, List.getD_cons_zero, List.getD_cons_succ, D.int_i, D.bool_b, D.lst_l, F37, ↓reduceIte, beq_f, Bool.not_false, sameLD_eq]
    rw [eqR, show ((xs.length : Int) == (ys.length : Int)) = false from beq_f (by omega), Bool.false_and]
theorem m14 : Meets Try.prog 14 S14 (R 14) (F 14) := by
  refine meets_of_vt (pre := R) (Φ := F) mixed (sgAt_all (P := Try.prog) (pre := R) (Φ := F) (l := sg14) (fcm ⟨m37, (fun _ h => nomatch h)⟩)) Try.func14 b14 n14 (loops_n 0 k14 fun k hk => by omega) e14 fun ds hf _ => ?_
  obtain ⟨x, y, rfl, hx, hy⟩ := fits2 hf.flat
  obtain ⟨xs, rfl, hm, _⟩ := wf_sl hx
  obtain ⟨ys, rfl, hm', _⟩ := wf_sl hy
  simp only [vt14, VT.ok, Nd.holds, X.outs, X.ds, X.d, takeD_zero, takeD_cons, List.cons_append, List.nil_append, List.getD_cons_zero, List.getD_cons_succ, D.bool_b, implies_true, and_true, F37, R37, F14, sameLD_eq]
theorem same4_refl (x : List D) : same4 x x = true := by simp [same4]
theorem loopM8_1 : LoopMeets Try.prog F (R L8_1.key) L8_1 lb8_1 := by
  refine loop_meets (pre := R) mixed (sgAt_all (P := Try.prog) (pre := R) (Φ := F) (l := sg8) ((fun _ h => nomatch h))) (loops_n 0 lk8_1 fun k hk => by omega) L8_1 (fun ρ => (((ρ.getD 7 default).lst.length : Int) - (ρ.getD 1 default).int).toNat) le8_1 fun ρ _ hq => ?_
  obtain ⟨v, a, b, c, d, e, xs, j, rfl, hj, hm⟩ : prF1 ρ := hq
  by_cases hlt : j < xs.length
  · simp (disch := omega) only [rt8_1, VT.ok, Nd.holds, X.ds, X.d, Op1.ev, Op2.ev, List.getD_cons_zero, List.getD_cons_succ, D.int_i, D.bool_b, D.lst_l, Int.toNat_natCast, implies_true, true_and, ↓reduceIte, dle_t, dlt_t, w64']
    show if fwPt xs j = true then _ else _
    cases hb : fwPt xs j
    · simp only [Bool.false_eq_true, if_false]
      refine round_next ⟨⟨v, a, b, c, d, e, xs, j + 1, rfl, by omega, hm⟩, ?_, ?_⟩
      · show ((xs.length : Int) - ((j + 1 : Nat) : Int)).toNat < ((xs.length : Int) - (j : Int)).toNat
        omega
      · show lpF1 [v, .i ((j + 1 : Nat) : Int), a, b, c, d, e, .l xs] = lpF1 [v, .i (j : Int), a, b, c, d, e, .l xs]
        simp only [lpF1, scB, Int.toNat_natCast]
        exact scan_next hlt hb
    · simp only [if_true]
      refine round_exit (by omega) ?_
      show lpF1 [v, .i (j : Int), a, b, c, d, e, .l xs] = _
      simp only [lpF1, scB, Int.toNat_natCast]
      exact scan_hit hlt hb
  · have hj' : j = xs.length := by omega
    subst hj'
    simp (disch := omega) only [rt8_1, VT.ok, X.ds, X.d, Op1.ev, Op2.ev, List.getD_cons_zero, List.getD_cons_succ, D.int_i, D.bool_b, D.lst_l, Bool.false_eq_true, ↓reduceIte, dlt_f]
    refine round_exit (by omega) ?_
    show lpF1 [v, .i (xs.length : Int), a, b, c, d, e, .l xs] = _
    simp only [lpF1, scB, Int.toNat_natCast]
    exact scan_end
theorem loopM8_2 : LoopMeets Try.prog F (R L8_2.key) L8_2 lb8_2 := by
  refine loop_meets (pre := R) mixed (sgAt_all (P := Try.prog) (pre := R) (Φ := F) (l := sg8) ((fun _ h => nomatch h))) (loops_n 0 lk8_2 fun k hk => by omega) L8_2 (fun ρ => (((ρ.getD 5 default).lst.length : Int) - (ρ.getD 1 default).int).toNat) le8_2 fun ρ _ hq => ?_
  obtain ⟨v, g, j, rfl, hj, hm⟩ : prF2 ρ := hq
  by_cases hlt : j < g.E.length
  · simp (disch := omega) only [rt8_2, VT.ok, Nd.holds, X.ds, X.d, Op1.ev, Op2.ev, List.getD_cons_zero, List.getD_cons_succ, D.int_i, D.bool_b, D.lst_l, ite_b, ite_or, Int.toNat_natCast, implies_true, true_and, ↓reduceIte, dle_t, dlt_t, w64']
    show if fwEd g.E j = true then _ else _
    cases hb : fwEd g.E j
    · simp only [Bool.false_eq_true, if_false]
      refine round_next ⟨⟨v, g, j + 1, rfl, by omega, hm⟩, ?_, ?_⟩
      · show ((g.E.length : Int) - ((j + 1 : Nat) : Int)).toNat < ((g.E.length : Int) - (j : Int)).toNat
        omega
      · show lpF2 [v, .i ((j + 1 : Nat) : Int), .s g.nm, .b g.dr, .l g.N, .l g.E, .l g.C] = lpF2 [v, .i (j : Int), .s g.nm, .b g.dr, .l g.N, .l g.E, .l g.C]
        simp only [lpF2, scB, Int.toNat_natCast]
        exact scan_next hlt hb
    · simp only [if_true]
      refine round_exit (by omega) ?_
      show lpF2 [v, .i (j : Int), .s g.nm, .b g.dr, .l g.N, .l g.E, .l g.C] = _
      simp only [lpF2, scB, Int.toNat_natCast]
      exact scan_hit hlt hb
  · have hj' : j = g.E.length := by omega
    subst hj'
    simp (disch := omega) only [rt8_2, VT.ok, X.ds, X.d, Op1.ev, Op2.ev, List.getD_cons_zero, List.getD_cons_succ, D.int_i, D.bool_b, D.lst_l, Bool.false_eq_true, ↓reduceIte, dlt_f]
    refine round_exit (by omega) ?_
    show lpF2 [v, .i (g.E.length : Int), .s g.nm, .b g.dr, .l g.N, .l g.E, .l g.C] = _
    simp only [lpF2, scB, Int.toNat_natCast]
    exact scan_end
theorem loopM8_3 : LoopMeets Try.prog F (R L8_3.key) L8_3 lb8_3 := by
  refine loop_meets (pre := R) mixed (sgAt_all (P := Try.prog) (pre := R) (Φ := F) (l := sg8) ((fun _ h => nomatch h))) (loops_n 0 lk8_3 fun k hk => by omega) L8_3 (fun ρ => (((ρ.getD 6 default).lst.length : Int) - (ρ.getD 1 default).int).toNat) le8_3 fun ρ _ hq => ?_
  obtain ⟨v, g, j, rfl, hj, hm⟩ : prF3 ρ := hq
  by_cases hlt : j < g.C.length
  · simp (disch := omega) only [rt8_3, VT.ok, Nd.holds, X.ds, X.d, Op1.ev, Op2.ev, List.getD_cons_zero, List.getD_cons_succ, D.int_i, D.bool_b, D.lst_l, Int.toNat_natCast, implies_true, true_and, ↓reduceIte, dle_t, dlt_t, w64']
    show if fwPt g.C j = true then _ else _
    cases hb : fwPt g.C j
    · simp only [Bool.false_eq_true, if_false]
      refine round_next ⟨⟨v, g, j + 1, rfl, by omega, hm⟩, ?_, ?_⟩
      · show ((g.C.length : Int) - ((j + 1 : Nat) : Int)).toNat < ((g.C.length : Int) - (j : Int)).toNat
        omega
      · show lpF3 [v, .i ((j + 1 : Nat) : Int), .s g.nm, .b g.dr, .l g.N, .l g.E, .l g.C] = lpF3 [v, .i (j : Int), .s g.nm, .b g.dr, .l g.N, .l g.E, .l g.C]
        simp only [lpF3, scB, Int.toNat_natCast]
        exact scan_next hlt hb
    · simp only [if_true]
      refine round_exit (by omega) ?_
      show lpF3 [v, .i (j : Int), .s g.nm, .b g.dr, .l g.N, .l g.E, .l g.C] = _
      simp only [lpF3, scB, Int.toNat_natCast]
      exact scan_hit hlt hb
  · have hj' : j = g.C.length := by omega
    subst hj'
    simp (disch := omega) only [rt8_3, VT.ok, X.ds, X.d, Op1.ev, Op2.ev, List.getD_cons_zero, List.getD_cons_succ, D.int_i, D.bool_b, D.lst_l, Bool.false_eq_true, ↓reduceIte, dlt_f]
    refine round_exit (by omega) ?_
    show lpF3 [v, .i (g.C.length : Int), .s g.nm, .b g.dr, .l g.N, .l g.E, .l g.C] = _
    simp only [lpF3, scB, Int.toNat_natCast]
    exact scan_end
theorem lpF0_eq (v : D) (g : Gd) (j : Nat) : lpF0 [v, .i (j : Int), .s g.nm, .b g.dr, .l g.N, .l g.E, .l g.C] = scanN (fwNd g.N) (fun j => [.i 0, .b false, .i (j : Int)]) (fun j => [.i 1, v, .i (j : Int)]) (g.N.length - j) j := by
  simp only [lpF0, scB, Int.toNat_natCast]
theorem lpF1_eq (v a b c d e : D) (xs : List (List D)) : lpF1 [v, .i 0, a, b, c, d, e, .l xs] = scanN (fwPt xs) (fun j => [.i 0, .b false, .i (j : Int)]) (fun j => [.i 1, v, .i (j : Int)]) xs.length 0 := by
  simp only [lpF1, scB, Int.toNat_zero, Nat.sub_zero]
theorem lpF2_eq (v : D) (g : Gd) : lpF2 [v, .i 0, .s g.nm, .b g.dr, .l g.N, .l g.E, .l g.C] = scanN (fwEd g.E) (fun j => [.i 0, .b false, .i (j : Int)]) (fun j => [.i 1, v, .i (j : Int)]) g.E.length 0 := by
  simp only [lpF2, scB, Int.toNat_zero, Nat.sub_zero]
theorem lpF3_eq (v : D) (g : Gd) : lpF3 [v, .i 0, .s g.nm, .b g.dr, .l g.N, .l g.E, .l g.C] = scanN (fwPt g.C) (fun j => [.i 0, .b false, .i (j : Int)]) (fun j => [.i 1, v, .i (j : Int)]) g.C.length 0 := by
  simp only [lpF3, scB, Int.toNat_zero, Nat.sub_zero]
theorem loopM8_0 : LoopMeets Try.prog F (R L8_0.key) L8_0 lb8_0 := by
  refine loop_meets (pre := R) mixed (sgAt_all (P := Try.prog) (pre := R) (Φ := F) (l := sg8) ((fun _ h => nomatch h))) (loops_n 1 lk8_0 fun k hk => match k, hk with | 0, _ => by rw [li8_0_0]; exact loop_this lf8_1 loopM8_1) L8_0 (fun ρ => (((ρ.getD 4 default).lst.length : Int) - (ρ.getD 1 default).int).toNat) le8_0 fun ρ _ hq => ?_
  obtain ⟨v, g, j, rfl, hj, h64, hN⟩ : prF0 ρ := hq
  by_cases hlt : j < g.N.length
  · obtain ⟨_, xs, hx⟩ := hN j hlt
    have hx' : (g.N.getD j []).getD 5 default = .l xs := hx
    have hcl : cL (el g.N j) 5 = xs := by simp only [cL]; rw [hx]; rfl
    have hhit : fwNd g.N j = true → RoundOk F (R L8_0.key) (fun ρ => (((ρ.getD 4 default).lst.length : Int) - (ρ.getD 1 default).int).toNat) L8_0 [v, .i (j : Int), .s g.nm, .b g.dr, .l g.N, .l g.E, .l g.C] [.i 0, .b false, .i (j : Int)] := fun h => by
      refine round_exit (by omega) ?_
      rw [show F L8_0.key = lpF0 from rfl, lpF0_eq]
      exact scan_hit hlt h
    have hmiss : fwNd g.N j = false → RoundOk F (R L8_0.key) (fun ρ => (((ρ.getD 4 default).lst.length : Int) - (ρ.getD 1 default).int).toNat) L8_0 [v, .i (j : Int), .s g.nm, .b g.dr, .l g.N, .l g.E, .l g.C] [.i (-1), v, .i ((j + 1 : Nat) : Int)] := fun h => by
      refine round_next ⟨⟨v, g, j + 1, rfl, by omega, h64, hN⟩, ?_, ?_⟩
      · show ((g.N.length : Int) - ((j + 1 : Nat) : Int)).toNat < ((g.N.length : Int) - (j : Int)).toNat
        omega
      · show lpF0 [v, .i ((j + 1 : Nat) : Int), .s g.nm, .b g.dr, .l g.N, .l g.E, .l g.C] = lpF0 [v, .i (j : Int), .s g.nm, .b g.dr, .l g.N, .l g.E, .l g.C]
        rw [lpF0_eq, lpF0_eq]
        exact scan_next hlt h
    have hfw : fwNd g.N j = (((decide (40 < ((cS (el g.N j) 0).size : Int)) || decide (80 < ((cS (el g.N j) 1).size : Int))) || decide (9 < (xs.length : Int))) || anyN (fwPt xs) xs.length) := by
      unfold fwNd; rw [hcl]
    simp (disch := omega) only [rt8_0, VT.ok, Nd.holds, X.outs, X.ds, X.d, Op1.ev, Op2.ev, List.cons_append, List.nil_append, List.getD_cons_zero, List.getD_cons_succ, D.int_i, D.bool_b, D.lst_l, ite_b, ite_or, Int.toNat_natCast, implies_true, true_and, F10800, R10800, ↓reduceIte, dle_t, dlt_t, w64', hx', lpF1_eq]
    show if ((decide (40 < ((cS (el g.N j) 0).size : Int)) || decide (80 < ((cS (el g.N j) 1).size : Int))) || decide (9 < (xs.length : Int))) = true then _ else _
    cases hA : ((decide (40 < ((cS (el g.N j) 0).size : Int)) || decide (80 < ((cS (el g.N j) 1).size : Int))) || decide (9 < (xs.length : Int)))
    · have h9 : xs.length ≤ 9 := by
        simp only [Bool.or_eq_false_iff, decide_eq_false_iff_not] at hA
        omega
      rw [if_neg (by decide)]
      refine ⟨fun _ => ⟨_, _, _, _, _, _, xs, 0, rfl, by omega, h9⟩, ?_⟩
      rcases scan_any (p := fwPt xs) (hit := fun j => [D.i 0, .b false, .i (j : Int)]) (miss := fun j => [D.i 1, v, .i (j : Int)]) xs.length with ⟨k1, j, _, _, _, k2⟩ | ⟨k1, k2⟩
      · rw [k2]
        simp only [takeD_zero, takeD_cons, List.getD_cons_zero, List.getD_cons_succ, D.int_i, if_true, show ((0 : Int) == 0) = true from rfl]
        exact hhit (by rw [hfw, hA, k1]; rfl)
      · rw [k2]
        simp only [takeD_zero, takeD_cons, List.getD_cons_zero, List.getD_cons_succ, D.int_i, Bool.false_eq_true, if_false, show ((1 : Int) == 0) = false from rfl]
        exact hmiss (by rw [hfw, hA, k1]; rfl)
    · rw [if_pos rfl]
      exact hhit (by rw [hfw, hA]; rfl)
  · have hj : j = g.N.length := by omega
    subst hj
    simp (disch := omega) only [rt8_0, VT.ok, X.ds, X.d, Op1.ev, Op2.ev, List.getD_cons_zero, List.getD_cons_succ, D.int_i, D.bool_b, D.lst_l, Bool.false_eq_true, ↓reduceIte, dlt_f]
    refine round_exit (by omega) ?_
    rw [show F L8_0.key = lpF0 from rfl, lpF0_eq]
    exact scan_end
theorem fewGD_eq (g : Gd) (n e : Int) : fewGD [.s g.nm, .b g.dr, .l g.N, .l g.E, .l g.C, .i n, .i e] = [.b (fewG g n e)] := rfl
theorem nodeRow {x : List D} {a b c d e : CT} {t : TypeId} {c6 : List CT} (h : FitsF [a, b, c, d, e, .sl t c6] x) : x.length = 6 ∧ ∃ xs, x.getD 5 default = .l xs := by
  match x, h with
  | [_, _, _, _, _, y], ⟨_, _, _, _, _, h6, _⟩ =>
    obtain ⟨xs, rfl, _⟩ := wf_sl h6
    exact ⟨rfl, xs, rfl⟩
theorem m8 : Meets Try.prog 8 S8 (R 8) (F 8) := by
  refine meets_of_vt (pre := R) (Φ := F) mixed (sgAt_all (P := Try.prog) (pre := R) (Φ := F) (l := sg8) ((fun _ h => nomatch h))) Try.func8 b8 n8 (loops_n 4 k8 fun k hk => match k, hk with | 0, _ => loop_this lf8_0 loopM8_0 | 1, _ => loop_this lf8_1 loopM8_1 | 2, _ => loop_this lf8_2 loopM8_2 | 3, _ => loop_this lf8_3 loopM8_3) e8 fun ds hf hq => ?_
  obtain ⟨g, ds', rfl, h5, _, ⟨hmN, hN⟩, ⟨hmE, _⟩, hmC, _⟩ := fitsG hf.flat
  obtain ⟨x, y, rfl, hx, hy⟩ := fits2 h5
  obtain ⟨n, rfl, _⟩ := wf_i64 hx
  obtain ⟨e, rfl, _⟩ := wf_i64 hy
  obtain ⟨hn, he⟩ : n ≤ 64 ∧ e ≤ 64 := hq
  simp only [vt8, VT.ok, Nd.holds, X.outs, X.ds, X.d, Op1.ev, Op2.ev, List.cons_append, List.nil_append, List.getD_cons_zero, List.getD_cons_succ, D.int_i, D.bool_b, D.lst_l, D.str_s, ite_b, ite_or, F10801, R10801, F10802, R10802, F10803, R10803, F8, fewGD_eq]
  show if (((decide (n < (g.N.length : Int)) || decide (e < (g.E.length : Int))) || decide (6 < (g.C.length : Int))) || decide (40 < (g.nm.size : Int))) = true then _ else _
  generalize hres : fewG g n e = res
  unfold fewG at hres
  cases hA : (((decide (n < (g.N.length : Int)) || decide (e < (g.E.length : Int))) || decide (6 < (g.C.length : Int))) || decide (40 < (g.nm.size : Int)))
  · rw [hA] at hres
    have hA' := hA
    simp only [Bool.or_eq_false_iff, decide_eq_false_iff_not] at hA'
    rw [if_neg (by decide)]
    have e0 := lpF0_eq (.b false) g 0
    simp only [Int.natCast_zero, Nat.sub_zero] at e0
    simp only [e0]
    refine ⟨fun _ => ⟨_, g, 0, rfl, by omega, by omega, fun k hk => nodeRow (hN _ (getD_mem [] hk))⟩, ?_⟩
    rcases scan_any (p := fwNd g.N) (hit := fun j => [D.i 0, .b false, .i (j : Int)]) (miss := fun j => [D.i 1, .b false, .i (j : Int)]) g.N.length with ⟨k1, j, _, _, _, k2⟩ | ⟨k1, k2⟩
    · rw [k2, ← hres, k1]; rfl
    · rw [k2]
      simp only [takeD_zero, takeD_cons, List.cons_append, List.nil_append, List.getD_cons_zero, List.getD_cons_succ, D.int_i, Bool.false_eq_true, if_false, show ((1 : Int) == 0) = false from rfl, lpF2_eq]
      refine ⟨fun _ => ⟨_, g, 0, rfl, by omega, by omega⟩, ?_⟩
      rcases scan_any (p := fwEd g.E) (hit := fun j => [D.i 0, .b false, .i (j : Int)]) (miss := fun j => [D.i 1, .b false, .i (j : Int)]) g.E.length with ⟨k3, j, _, _, _, k4⟩ | ⟨k3, k4⟩
      · rw [k4, ← hres, k1, k3]; rfl
      · rw [k4]
        simp only [takeD_zero, takeD_cons, List.cons_append, List.nil_append, List.getD_cons_zero, List.getD_cons_succ, D.int_i, Bool.false_eq_true, if_false, show ((1 : Int) == 0) = false from rfl, lpF3_eq]
        refine ⟨fun _ => ⟨_, g, 0, rfl, by omega, by omega⟩, ?_⟩
        rcases scan_any (p := fwPt g.C) (hit := fun j => [D.i 0, .b false, .i (j : Int)]) (miss := fun j => [D.i 1, .b false, .i (j : Int)]) g.C.length with ⟨k5, j, _, _, _, k6⟩ | ⟨k5, k6⟩
        · rw [k6, ← hres, k1, k3, k5]; rfl
        · rw [k6, ← hres, k1, k3, k5]; rfl
  · rw [hA] at hres
    rw [if_pos rfl, ← hres]; rfl
end Go.Proofs.Ytindllmeeckfcaa.rv
namespace Go.Proofs.Ytindllmeeckfcaa.rv
set_option maxRecDepth 10000
open Go.RV
theorem m9 : Meets Try.prog 9 S9 (R 9) (F 9) := by
  refine meets_of_vt (pre := R) (Φ := F) mixed (sgAt_all (P := Try.prog) (pre := R) (Φ := F) (l := sg9) (fcm ⟨m12, fcm ⟨m10, fcm ⟨m14, fcm ⟨m11, (fun _ h => nomatch h)⟩⟩⟩⟩)) Try.func9 b9 n9 (loops_n 0 k9 fun k hk => by omega) e9 fun ds hf hq => ?_
  have e0 := fits0 hf.flat
  subst e0
  simp only [vt9, VT.ok, Nd.holds, X.outs, X.ds, X.d, Op1.ev, Op2.ev, List.nil_append, D.int_i, D.bool_b, D.lst_l, implies_true, true_and, F12, R12, F10, R10, F11, R11, F14, R14, F9]
  refine ⟨fun _ => by kernel_rfl, fun _ => by kernel_rfl, fun _ => by kernel_rfl, by kernel_rfl⟩
theorem law5 : Meets Try.prog 5 S5 (fun _ => True) (fun _ => [.b true]) := by
  refine meets_of_vt (pre := R) (Φ := F) mixed (sgAt_all (P := Try.prog) (pre := R) (Φ := F) (l := sg5) (fcm ⟨m8, fcm ⟨m9, fcm ⟨m10, fcm ⟨m15, fcm ⟨m14, (fun _ h => nomatch h)⟩⟩⟩⟩⟩)) Try.func5 b5 n5 (loops_n 0 k5 fun k hk => by omega) e5 fun ds hf _ => ?_
  obtain ⟨g, o, B, ds', rfl, h0, hm, _⟩ := fitsGO hf.flat
  obtain rfl := fits0 h0
  have h1 : fewGP [.s g.nm, .b g.dr, .l g.N, .l g.E, .l g.C, .i 8, .i 6] := by show (8 : Int) ≤ 64 ∧ (6 : Int) ≤ 64; decide
  simp only [vt5, VT.ok, Nd.holds, X.outs, X.ds, X.d, Op1.ev, Op2.ev, takeD_zero, takeD_cons, List.cons_append, List.nil_append, List.getD_cons_zero, List.getD_cons_succ, D.int_i, D.bool_b, D.lst_l, ite_b, ite_or, ite_and, List.length_map, if_true, implies_true, true_and, and_true, F10, R10, F15, R15, F14, R14, F8, R8, F9, R9, fewGD_eq, placeD_eq, sameLD_eq, eqR_refl same4_refl, one]
  refine ⟨fun _ => h1, ?_⟩
  split
  · trivial
  · simp
end Go.Proofs.Ytindllmeeckfcaa.rv
