/-
 Ranking problems: Solve, walked.; Ranking problems: Cost.; Ranks of graphs: the arcs that are kept, walked.; Ranks of graphs: the ranking problems, walked; they have feasible ranks.; Ranks of graphs: Ranks, and the graph whose ranks are 0, 1, 1.; Ranks grow: the law's function, walked.; Ranks grow: the law.
-/
import Derived.Test.YtinaaabmmjpijaaDoorZTopGrowsP
namespace Go.Proofs.YtinaaabmmjpijaaDoor.rv
set_option maxRecDepth 10000
open Go.RV Sx
theorem m35 : Meets Tryd.prog 35 S35 (R 35) (F 35) := by
 refine meets_of_vt (pre := R) (Φ := F) mixed (sgAt_all (P := Tryd.prog) (pre := R) (Φ := F) (l := sg35) (fcm ⟨m36, fcm ⟨m56, fcm ⟨m55, List.forall_mem_cons.2 ⟨ProcMeets.at1 mp35_1, List.forall_mem_cons.2 ⟨MeetsAt.name, (fun _ h => nomatch h)⟩⟩⟩⟩⟩)) Tryd.func35 b35 n35 (loops_n 1 k35 fun k hk => match k, hk with | 0, _ => loop_this lf35_0 loopM35_0) e35 fun ds _ hp => ?_
 obtain ⟨N, B, p, rfl, hV, hP⟩ : svPre ds := hp
 have hN := hV.hN
 have hBl := hV.hB
 obtain ⟨hC, _⟩ := cert_ok hV hP
 obtain ⟨q, hq⟩ := hC.pot
 have hrep : ∀ n : Nat, List.replicate n [D.i 0] = (List.replicate n (0 : Int)).map encI := fun n => by rw [List.map_replicate]; rfl
 have hall : ∀ f : List Int, allD [.p [.i (N : Int), .l (B.map encB), .l (f.map encI)]] = [.l ((List.range N).map encN)] := fun f => by simp only [allD, gz0, D.ptd_p, D.int_i, tn0]
 have hst : ∀ f : List Int, f.length = B.length → stepsPre [.p [.i (N : Int), .l (B.map encB), .l (f.map encI)]] := fun f hf => ⟨N, B, f, rfl, hV, hf⟩
 have hlp : ∀ (f : List Int) (p : Nat → Int), f.length = B.length → Pot B f p → longPre [.p [.i (N : Int), .l (B.map encB), .l (f.map encI)], .l ((List.range N).map encN)] := fun f p hf hp => ⟨N, B, f, List.range N, p, rfl, hV, hf, hp, by simp, fun v hv => List.mem_range.1 hv⟩
 have hlg : ∀ f : List Int, longD [.p [.i (N : Int), .l (B.map encB), .l (f.map encI)], .l ((List.range N).map encN)] = [.l ((longW N B f (List.range N)).map encW), .b true] := fun f => by
  simp only [longD, gz0, gs0, D.ptd_p, D.int_i, tn0, D.lst_l, map_dec decB_enc, map_dec dec_encI, map_dec decN_enc]
 have hvd : vdPre [.i (N : Int), .l (B.map encB)] := ⟨N, B, rfl, hV⟩
 have hvr : vdD [.i (N : Int), .l (B.map encB)] = [.b true] := rfl
 have hcp : cfPre [.l ((List.replicate B.length (0 : Int)).map encI), .i (N : Int), .l (B.map encB)] := ⟨N, B, p, rfl, hV, hP⟩
 have hcd : cfD [.l ((List.replicate B.length (0 : Int)).map encI), .i (N : Int), .l (B.map encB)] = [.i 0, .l ((cert N B).1.map encI)] := by
  simp only [cfD, gz0, gs0, D.int_i, tn0, D.lst_l, map_dec decB_enc]
 have hWl : (longW N B (cert N B).1 (List.range N)).length = N := (longW_fin hV hq fun v hv => List.mem_range.1 hv).2.len
 have hsp : prSo [.i (N : Int), .i 0, .l ((longW N B (cert N B).1 (List.range N)).map encW), .l ((List.replicate N (0 : Int)).map encI)] := ⟨N, 0, _, _, rfl, Nat.zero_le _, hN, hWl, by simp⟩
 have hsd : lpSo [.i (N : Int), .i 0, .l ((longW N B (cert N B).1 (List.range N)).map encW), .l ((List.replicate N (0 : Int)).map encI)] = [.i 0, .i (N : Int), .l ((solveR N B).map encI)] := by
  simp only [lpSo, gz0, gs0, D.int_i, tn0, Int.toNat_zero, D.lst_l, map_dec decW_enc, map_dec dec_encI]
  rw [fill_long N 0 _ (Nat.zero_le _) (by simp) fun k hk => by omega]
  rfl
 have hout : svD [.i (N : Int), .l (B.map encB)] = [.l ((solveR N B).map encI), .l ((cert N B).1.map encI), .i 0] := by
  simp only [svD, gz0, gs0, D.int_i, tn0, D.lst_l, map_dec decB_enc]
 rw [show F 35 = svD from rfl, hout]
 have h0 := hst (List.replicate B.length 0) (by simp)
 have h1 := hlp (List.replicate B.length 0) p (by simp) hP
 have h2 := hst (cert N B).1 hC.fl
 have h3 := hlp (cert N B).1 q hC.fl hq
 simp (disch := omega) only [vt35, VT.ok, Nd.holds, X.outs, X.ds, X.d, Op1.ev, Op2.ev, takeD_zero, takeD_cons, List.cons_append, List.nil_append, gz0, gs0, D.int_i, D.bool_b, D.lst_l, tn0, lm0, fe0, implies_true, true_and, and_true, F56, R56, F55, R55, F42057000, R42057000, F36, R36, F13500, R13500, ↓reduceIte, dle_t, lm0, List.length_replicate, tn0, hrep, hvr, hall, hlg, hcd, hsd, Bool.not_true, fe0]
 exact ⟨fun _ => hvd, fun _ => h0, fun _ => h1, fun _ => hcp, fun _ => h2, fun _ => h3, fun _ => hsp⟩
end Go.Proofs.YtinaaabmmjpijaaDoor.rv
namespace Go.Proofs.YtinaaabmmjpijaaDoor.rv
set_option maxRecDepth 10000
open Go.RV Sx
theorem loopM20_0 : LoopMeets Tryd.prog F (R L20_0.key) L20_0 lb20_0 := by
 refine loop_meets (pre := R) mixed (sgAt_all (P := Tryd.prog) (pre := R) (Φ := F) (l := sg20) (fcm ⟨m36, (fun _ h => nomatch h)⟩)) (loops_n 0 lk20_0 fun k hk => by omega) L20_0 (fun ρ => ((ρ.getD 2 default).int - (ρ.getD 3 default).int).toNat) le20_0 fun ρ _ hp => ?_
 obtain ⟨r, i, x, rfl, hi, hl, hr⟩ : prRk ρ := hp
 by_cases hlt : i < r.length
 ·have rr : (r.map encI).getD i [] = [D.i (r.getD i 0)] := rowI hlt
  have hri := hr i
  simp (disch := omega) only [rt20_0, VT.ok, Nd.holds, X.ds, X.d, Op1.ev, Op2.ev, gz0, gs0, D.int_i, D.bool_b, D.lst_l, tn0, lm0, fe0, implies_true, true_and, ↓reduceIte, dle_t, dlt_t, dlt_f, w64', lm0, rr, fe0]
  refine round_next ⟨⟨r, i + 1, x, rfl, by omega, hl, hr⟩, ?_, ?_⟩
  ·show ((r.length : Int) - ((i + 1 : Nat) : Int)).toNat < ((r.length : Int) - (i : Int)).toNat
   omega
  ·rfl
 ·have hj : i = r.length := by omega
  subst hj
  simp (disch := omega) only [rt20_0, VT.ok, X.ds, X.d, Op2.ev, gz0, gs0, D.int_i, D.bool_b, fe0, ↓reduceIte, dlt_f]
  exact round_exit (by omega) rfl
theorem m20 : Meets Tryd.prog 20 S20 (R 20) (F 20) := by
 refine meets_of_vt (pre := R) (Φ := F) mixed (sgAt_all (P := Tryd.prog) (pre := R) (Φ := F) (l := sg20) (fcm ⟨m36, (fun _ h => nomatch h)⟩)) Tryd.func20 b20 n20 (loops_n 1 k20 fun k hk => match k, hk with | 0, _ => loop_this lf20_0 loopM20_0) e20 fun ds _ hp => ?_
 obtain ⟨N, B, r, rfl, hV, hl, hr⟩ : rkPre ds := hp
 have hN := hV.hN
 have hvd : vdPre [.i (N : Int), .l (B.map encB)] := ⟨N, B, rfl, hV⟩
 have hvr : vdD [.i (N : Int), .l (B.map encB)] = [.b true] := rfl
 have hp1 : prRk [.b false, .l (r.map encI), .i (N : Int), .i 0] := ⟨r, 0, _, by rw [hl]; rfl, Nat.zero_le _, by omega, hr⟩
 have hc1 : lpRk [.b false, .l (r.map encI), .i (N : Int), .i 0] = [.i 1, .b false, .i (N : Int)] := rfl
 have hout : F 20 [.i (N : Int), .l (B.map encB), .l (r.map encI)] = [.b true] := rfl
 rw [hout]
 simp (disch := omega) only [vt20, VT.ok, Nd.holds, X.outs, X.ds, X.d, Op1.ev, Op2.ev, takeD_zero, takeD_cons, List.cons_append, List.nil_append, gz0, gs0, D.int_i, D.bool_b, D.lst_l, lm0, fe0, and_true, F36, R36, F12000, R12000, ↓reduceIte, beq_t, beq_f, lm0, hl, hvr, hc1, Bool.not_true, fe0]
 exact ⟨fun _ => hvd, fun _ => hp1⟩
theorem mul_bd {w d : Int} (h0 : 0 ≤ w) (h1 : w ≤ 8000) (h2 : -68719476736 ≤ d) (h3 : d ≤ 68719476736) : -549755813888000 ≤ w * d ∧ w * d ≤ 549755813888000 := by
 have a := Int.mul_le_mul_of_nonneg_left h3 h0
 have b := Int.mul_le_mul_of_nonneg_left h2 h0
 omega
theorem loopM9_0 : LoopMeets Tryd.prog F (R L9_0.key) L9_0 lb9_0 := by
 refine loop_meets (pre := R) mixed (sgAt_all (P := Tryd.prog) (pre := R) (Φ := F) (l := sg9) (fcm ⟨m20, (fun _ h => nomatch h)⟩)) (loops_n 0 lk9_0 fun k hk => by omega) L9_0 (fun ρ => ((ρ.getD 3 default).int - (ρ.getD 4 default).int).toNat) le9_0 fun ρ _ hp => ?_
 obtain ⟨N, B, r, s, i, rfl, hi, hV, hrl, hr, hs0, hs1⟩ : prCo ρ := hp
 have hBl := hV.hB
 by_cases hlt : i < B.length
 ·have hdrop : B.drop i = B.getD i b0 :: B.drop (i + 1) := by rw [List.drop_eq_getElem_cons hlt, List.getD_eq_getElem?_getD, List.getElem?_eq_getElem hlt]; rfl
  have hmem : B.getD i b0 ∈ B := by rw [List.getD_eq_getElem?_getD, List.getElem?_eq_getElem hlt]; exact List.getElem_mem hlt
  have hrB : (B.map encB).getD i [] = encB (B.getD i b0) := rowB hlt
  obtain ⟨v1, v2, v3, v4, v5, v6, v7⟩ := hV.ok _ hmem
  generalize B.getD i b0 = b at *
  have r1 : (r.map encI).getD b.to [] = [D.i (r.getD b.to 0)] := rowI (by omega)
  have r2 : (r.map encI).getD b.fr [] = [D.i (r.getD b.fr 0)] := rowI (by omega)
  have ht := hr b.to
  have hf := hr b.fr
  obtain ⟨m1, m2⟩ := mul_bd (d := r.getD b.to 0 - r.getD b.fr 0) v6 v7 (by omega) (by omega)
  have e1 : IntKind.i64.wrap (r.getD b.to 0 - r.getD b.fr 0) = r.getD b.to 0 - r.getD b.fr 0 := w64 (by omega)
  have e2 : IntKind.i64.wrap (b.w * (r.getD b.to 0 - r.getD b.fr 0)) = b.w * (r.getD b.to 0 - r.getD b.fr 0) := w64 (by omega)
  have e3 : IntKind.i64.wrap (s + b.w * (r.getD b.to 0 - r.getD b.fr 0)) = s + b.w * (r.getD b.to 0 - r.getD b.fr 0) := w64 (by omega)
  simp (disch := omega) only [rt9_0, VT.ok, Nd.holds, X.ds, X.d, Op1.ev, Op2.ev, gz0, gs0, D.int_i, D.bool_b, D.lst_l, tn0, lm0, implies_true, true_and, ↓reduceIte, dle_t, dlt_t, w64', lm0, hrB, encB, r1, r2, e1, e2, e3, hrl]
  refine round_next ⟨⟨N, B, r, _, i + 1, rfl, by omega, hV, hrl, hr, by omega, by omega⟩, ?_, ?_⟩
  ·show ((B.length : Int) - ((i + 1 : Nat) : Int)).toNat < ((B.length : Int) - (i : Int)).toNat
   omega
  ·show lpCo [.l (r.map encI), .i (s + b.w * (r.getD b.to 0 - r.getD b.fr 0)), .l (B.map encB), .i (B.length : Int), .i ((i + 1 : Nat) : Int)] = lpCo [.l (r.map encI), .i s, .l (B.map encB), .i (B.length : Int), .i (i : Int)]
   simp only [lpCo, gz0, gs0, D.int_i, tn0, D.lst_l, map_dec decB_enc, map_dec dec_encI, hdrop, costF, Int.add_assoc]
 ·have hj : i = B.length := by omega
  subst hj
  simp (disch := omega) only [rt9_0, VT.ok, X.ds, X.d, Op2.ev, gz0, gs0, D.int_i, D.bool_b, fe0, ↓reduceIte, dlt_f]
  refine round_exit (by omega) ?_
  show lpCo [.l (r.map encI), .i s, .l (B.map encB), .i (B.length : Int), .i (B.length : Int)] = _
  simp only [lpCo, gz0, gs0, D.int_i, tn0, D.lst_l, map_dec decB_enc, map_dec dec_encI, List.drop_length, costF, Int.add_zero]
theorem m9 : Meets Tryd.prog 9 S9 (R 9) (F 9) := by
 refine meets_of_vt (pre := R) (Φ := F) mixed (sgAt_all (P := Tryd.prog) (pre := R) (Φ := F) (l := sg9) (fcm ⟨m20, (fun _ h => nomatch h)⟩)) Tryd.func9 b9 n9 (loops_n 1 k9 fun k hk => match k, hk with | 0, _ => loop_this lf9_0 loopM9_0) e9 fun ds _ hp => ?_
 have hp' := hp
 obtain ⟨N, B, r, rfl, hV, hl, hr⟩ : rkPre ds := hp
 have hBl := hV.hB
 have hrv : vdD [.i (N : Int), .l (B.map encB), .l (r.map encI)] = [.b true] := rfl
 have hp1 : prCo [.l (r.map encI), .i 0, .l (B.map encB), .i (B.length : Int), .i 0] := ⟨N, B, r, 0, 0, rfl, Nat.zero_le _, hV, hl, hr, by omega, by omega⟩
 have hc1 : lpCo [.l (r.map encI), .i 0, .l (B.map encB), .i (B.length : Int), .i 0] = [.i 0, .i (costF B fun v => r.getD v 0), .i (B.length : Int)] := by
  simp only [lpCo, gz0, gs0, D.int_i, Int.toNat_zero, D.lst_l, map_dec decB_enc, map_dec dec_encI, List.drop_zero, Int.zero_add]
 have hout : costD [.i (N : Int), .l (B.map encB), .l (r.map encI)] = [.i (costF B fun v => r.getD v 0)] := by
  simp only [costD, gz0, gs0, D.lst_l, map_dec decB_enc, map_dec dec_encI]
 rw [show F 9 = costD from rfl, hout]
 simp (disch := omega) only [vt9, VT.ok, Nd.holds, X.outs, X.ds, X.d, Op1.ev, takeD_zero, takeD_cons, List.cons_append, List.nil_append, gz0, gs0, D.bool_b, D.lst_l, lm0, fe0, and_true, F20, R20, F10900, R10900, ↓reduceIte, lm0, hrv, hc1, Bool.not_true, fe0]
 exact ⟨fun _ => hp', fun _ => hp1⟩
end Go.Proofs.YtinaaabmmjpijaaDoor.rv
namespace Go.Proofs.YtinaaabmmjpijaaDoor.rv
set_option maxRecDepth 10000
open Go.RV Lo Sx
theorem coll_one {α : Type} (f : Nat → α) (n : Nat) : collN (fun j => [f j]) n 0 = (List.range n).map f := by
 simp only [collN, List.drop_zero]
 induction List.range n with
 | nil => rfl
 | cons a l ih => rw [List.flatMap_cons, ih]; rfl
theorem sk_arcs {g : Gd} (h : GG g) : collN (sk g.E) g.E.length 0 = (arcsG g.E).map encA := by
 rw [show sk g.E = fun j => [[(el g.E j).getD 0 default, (el g.E j).getD 1 default]] from rfl, coll_one]
 refine List.ext_getElem (by simp [arcsG]) fun i h1 h2 => ?_
 have hi : i < g.E.length := by simpa using h1
 have hm : g.E[i] ∈ g.E := List.getElem_mem hi
 have he : el g.E i = g.E[i] := by simp [el, List.getD, hi]
 obtain ⟨n1, n2⟩ := h.nm _ hm
 obtain ⟨b1, b2, b3, b4, _⟩ := h.bd _ hm
 simp only [List.getElem_map, List.getElem_range, arcsG, he, n1, n2, encA]
 rw [Int.toNat_of_nonneg b1, Int.toNat_of_nonneg b3]
theorem skD_eq {g : Gd} (h : GG g) : skD g.ds = [.i (g.N.length : Int), .l ((arcsG g.E).map encA)] := by
 show [D.i ((g.N.length : Nat) : Int), D.l (collN (sk g.E) g.E.length 0)] = _
 rw [sk_arcs h]
theorem arcsG_len (E : List (List D)) : (arcsG E).length = E.length := by simp [arcsG]
theorem okk_G {g : Gd} (h : GG g) : Okk g.N.length (arcsG g.E) := ⟨fun a ha => by
 obtain ⟨x, hx, rfl⟩ := List.mem_map.1 ha
 obtain ⟨b1, b2, b3, b4, _⟩ := h.bd x hx
 exact ⟨by show (cI x 0).toNat < _; omega, by show (cI x 1).toNat < _; omega⟩⟩
theorem kpN_le (B : List (Nat × Nat)) (i : Nat) : (kpN B i).length ≤ i := by
 have := List.length_filter_le (fun i => decide ((arc B i).1 ≠ (arc B i).2)) (List.range i)
 simpa [kpN] using this
theorem kpN_succ (B : List (Nat × Nat)) (i : Nat) : kpN B (i + 1) = kpN B i ++ if (arc B i).1 ≠ (arc B i).2 then [i] else [] := by
 rw [kpN, List.range_succ, List.filter_append]
 congr 1
 by_cases h : (arc B i).1 = (arc B i).2 <;> simp [h]
theorem catA {l : List (Nat × Nat)} {a b : Nat} : l.map encA ++ [[D.i (a : Int), D.i (b : Int)]] = (l ++ [(a, b)]).map encA := cat_map encA l (a, b)
theorem loopM18_0 : LoopMeets Tryd.prog F (R L18_0.key) L18_0 lb18_0 := by
 refine loop_meets (pre := R) mixed (sgAt_all (P := Tryd.prog) (pre := R) (Φ := F) (l := sg18) (fcm ⟨m34, fcm ⟨m33, (fun _ h => nomatch h)⟩⟩)) (loops_n 0 lk18_0 fun k hk => by omega) L18_0 (fun ρ => ((ρ.getD 1 default).int - (ρ.getD 2 default).int).toNat) le18_0 fun ρ _ hp => ?_
 obtain ⟨B, i, x, rfl, hi, hm⟩ : prAc ρ := hp
 have hkl := kpN_le B i
 by_cases hlt : i < B.length
 ·have hr := rowA (l := B) hlt
  have hs := kpN_succ B i
  have hnx : RoundOk F (R L18_0.key) (fun ρ => ((ρ.getD 1 default).int - (ρ.getD 2 default).int).toNat) L18_0 [.l (B.map encA), .i (B.length : Int), .i (i : Int), x, .l (((kpN B i).map (arc B)).map encA), .l ((kpN B i).map encN)] [.i (-1), .i ((i : Int) + 1), .l (((kpN B (i + 1)).map (arc B)).map encA), .l ((kpN B (i + 1)).map encN)] := by
   refine round_next ⟨⟨B, i + 1, x, rfl, by omega, hm⟩, ?_, rfl⟩
   show ((B.length : Int) - ((i + 1 : Nat) : Int)).toNat < ((B.length : Int) - (i : Int)).toNat
   omega
  by_cases e : (arc B i).1 = (arc B i).2
  ·rw [if_neg (by simpa using e), List.append_nil] at hs
   rw [hs] at hnx
   simp (disch := omega) only [rt18_0, VT.ok, Nd.holds, X.ds, X.d, Op1.ev, Op2.ev, gz0, gs0, D.int_i, D.bool_b, D.lst_l, tn0, lm0, fe0, implies_true, true_and, ↓reduceIte, dle_t, dlt_t, beq_t, w64', lm0, hr, encA, Bool.not_true, fe0]
   exact hnx
  ·rw [if_pos e] at hs
   rw [hs, show (kpN B i ++ [i]).map (arc B) = (kpN B i).map (arc B) ++ [((arc B i).1, (arc B i).2)] from by rw [List.map_append]; rfl] at hnx
   simp (disch := omega) only [rt18_0, VT.ok, Nd.holds, X.ds, X.d, Op1.ev, Op2.ev, gz0, gs0, D.int_i, D.bool_b, D.lst_l, tn0, lm0, implies_true, true_and, ↓reduceIte, dle_t, dlt_t, beq_f, w64', lm0, hr, encA, Bool.not_false, catA, catN, List.length_append, List.length_singleton]
   exact hnx
 ·have hj : i = B.length := by omega
  subst hj
  simp (disch := omega) only [rt18_0, VT.ok, X.ds, X.d, Op2.ev, gz0, gs0, D.int_i, D.bool_b, fe0, ↓reduceIte, dlt_f]
  refine round_exit (by omega) ?_
  show lpAc _ = _
  simp only [lpAc, gz0, gs0, D.lst_l, map_dec decA_enc]
  rfl
theorem brkG_len {g : Gd} : (brkG g).length = g.E.length := by rw [brkG, flipS_len, arcsG_len]
theorem bk_eq {g : Gd} : bkD [.i (g.N.length : Int), .l ((arcsG g.E).map encA)] = [.l ((leastD g.N.length (arcsG g.E)).map encN), .i (g.N.length : Int), .l ((brkG g).map encA)] := by
 simp only [bkD, gz0, gs0, D.int_i, tn0, D.lst_l, map_dec decA_enc]
 rfl
theorem m18 : Meets Tryd.prog 18 S18 (R 18) (F 18) := by
 refine meets_of_vt (pre := R) (Φ := F) mixed (sgAt_all (P := Tryd.prog) (pre := R) (Φ := F) (l := sg18) (fcm ⟨m34, fcm ⟨m33, (fun _ h => nomatch h)⟩⟩)) Tryd.func18 b18 n18 (loops_n 1 k18 fun k hk => match k, hk with | 0, _ => loop_this lf18_0 loopM18_0) e18 fun ds _ hp => ?_
 obtain ⟨g, rfl, hg⟩ : ggPre ds := hp
 have hE := hg.e
 have hs0 : skPre [.s g.nm, .b g.dr, .l g.N, .l g.E, .l g.C] := by
  show g.E.length ≤ 1000000
  omega
 have hs : skD [.s g.nm, .b g.dr, .l g.N, .l g.E, .l g.C] = _ := skD_eq hg
 have hb0 : dgPre [.i (g.N.length : Int), .l ((arcsG g.E).map encA)] := ⟨_, _, rfl, hg.n8, okk_G hg, by rw [arcsG_len]; exact hE⟩
 have hl := brkG_len (g := g)
 have h1 : prAc [.l ((brkG g).map encA), .i ((brkG g).length : Int), .i 0, .i (g.N.length : Int), .l [], .l []] := ⟨brkG g, 0, _, rfl, Nat.zero_le _, by omega⟩
 have h2 : lpAc [.l ((brkG g).map encA), .i ((brkG g).length : Int), .i 0, .i (g.N.length : Int), .l [], .l []] = [.i 0, .i ((brkG g).length : Int), .l ((keptA (brkG g)).map encA), .l ((keepL (brkG g)).map encN)] := by
  simp only [lpAc, gz0, gs0, D.lst_l, map_dec decA_enc]
 have hout : F 18 g.ds = [.i (g.N.length : Int), .l ((keptA (brkG g)).map encA), .l ((keepL (brkG g)).map encN)] := rfl
 rw [hout]
 simp (disch := omega) only [vt18, Gd.ds, VT.ok, Nd.holds, X.outs, X.ds, X.d, Op1.ev, takeD_zero, takeD_cons, List.cons_append, List.nil_append, gz0, gs0, D.bool_b, D.lst_l, lm0, and_true, F34, R34, F33, R33, F11800, R11800, lm0, hs, bk_eq, h2]
 exact ⟨fun _ => hs0, fun _ => hb0, fun _ => h1⟩
theorem loopM16_0 : LoopMeets Tryd.prog F (R L16_0.key) L16_0 lb16_0 := by
 refine loop_meets (pre := R) mixed (sgAt_all (P := Tryd.prog) (pre := R) (Φ := F) (l := sg16) (fcm ⟨m28, fcm ⟨m27, (fun _ h => nomatch h)⟩⟩)) (loops_n 0 lk16_0 fun k hk => by omega) L16_0 (fun ρ => (((ρ.getD 2 default).lst.length : Int) - (ρ.getD 0 default).int).toNat) le16_0 fun ρ _ hp => ?_
 obtain ⟨B, i, x, y, rfl, hi, hm⟩ : prRc ρ := hp
 have hkl := kpN_le B i
 by_cases hlt : i < B.length
 ·have hr := rowA (l := B) hlt
  have hs := kpN_succ B i
  have hnx : RoundOk F (R L16_0.key) (fun ρ => (((ρ.getD 2 default).lst.length : Int) - (ρ.getD 0 default).int).toNat) L16_0 [.i (i : Int), x, .l (B.map encA), y, .l ((kpN B i).map encN), .l (((kpN B i).map (arc B)).map encA)] [.i (-1), .i ((i : Int) + 1), .l ((kpN B (i + 1)).map encN), .l (((kpN B (i + 1)).map (arc B)).map encA)] := by
   refine round_next ⟨⟨B, i + 1, x, y, rfl, by omega, hm⟩, ?_, ?_⟩
   ·show (((B.map encA).length : Int) - ((i + 1 : Nat) : Int)).toNat < (((B.map encA).length : Int) - (i : Int)).toNat
    rw [lm0]; omega
   ·rfl
  by_cases e : (arc B i).1 = (arc B i).2
  ·rw [if_neg (by simpa using e), List.append_nil] at hs
   rw [hs] at hnx
   simp (disch := omega) only [rt16_0, VT.ok, Nd.holds, X.ds, X.d, Op1.ev, Op2.ev, gz0, gs0, D.int_i, D.bool_b, D.lst_l, tn0, lm0, fe0, implies_true, true_and, ↓reduceIte, dle_t, dlt_t, beq_t, w64', lm0, hr, encA, Bool.not_true, fe0]
   exact hnx
  ·rw [if_pos e] at hs
   rw [hs, show (kpN B i ++ [i]).map (arc B) = (kpN B i).map (arc B) ++ [((arc B i).1, (arc B i).2)] from by rw [List.map_append]; rfl] at hnx
   simp (disch := omega) only [rt16_0, VT.ok, Nd.holds, X.ds, X.d, Op1.ev, Op2.ev, gz0, gs0, D.int_i, D.bool_b, D.lst_l, tn0, lm0, implies_true, true_and, ↓reduceIte, dle_t, dlt_t, beq_f, w64', lm0, hr, encA, Bool.not_false, catA, catN, List.length_append, List.length_singleton]
   exact hnx
 ·have hj : i = B.length := by omega
  subst hj
  simp (disch := omega) only [rt16_0, VT.ok, X.ds, X.d, Op1.ev, Op2.ev, gz0, gs0, D.int_i, D.bool_b, D.lst_l, lm0, fe0, ↓reduceIte, dlt_f, lm0]
  refine round_exit (by omega) ?_
  show lpRc _ = _
  simp only [lpRc, gz0, gs0, D.lst_l, map_dec decA_enc, lm0]
  rfl
theorem m16 : Meets Tryd.prog 16 S16 (R 16) (F 16) := by
 refine meets_of_vt (pre := R) (Φ := F) mixed (sgAt_all (P := Tryd.prog) (pre := R) (Φ := F) (l := sg16) (fcm ⟨m28, fcm ⟨m27, (fun _ h => nomatch h)⟩⟩)) Tryd.func16 b16 n16 (loops_n 1 k16 fun k hk => match k, hk with | 0, _ => loop_this lf16_0 loopM16_0) e16 fun ds _ hp => ?_
 obtain ⟨g, rfl, hg⟩ : ggPre ds := hp
 have hE := hg.e
 have hs0 : skPre [.s g.nm, .b g.dr, .l g.N, .l g.E, .l g.C] := by
  show g.E.length ≤ 1000000
  omega
 have hs : skD [.s g.nm, .b g.dr, .l g.N, .l g.E, .l g.C] = _ := skD_eq hg
 have hb0 : dgPre [.i (g.N.length : Int), .l ((arcsG g.E).map encA)] := ⟨_, _, rfl, hg.n8, okk_G hg, by rw [arcsG_len]; exact hE⟩
 have hl := brkG_len (g := g)
 have h1 : prRc [.i 0, .i (g.N.length : Int), .l ((brkG g).map encA), .i (g.N.length : Int), .l [], .l []] := ⟨brkG g, 0, _, _, rfl, Nat.zero_le _, by omega⟩
 have h2 : lpRc [.i 0, .i (g.N.length : Int), .l ((brkG g).map encA), .i (g.N.length : Int), .l [], .l []] = [.i 0, .i ((brkG g).length : Int), .l ((keepL (brkG g)).map encN), .l ((keptA (brkG g)).map encA)] := by
  simp only [lpRc, gz0, gs0, D.lst_l, map_dec decA_enc, lm0]
 have hout : F 16 g.ds = [.i (g.N.length : Int), .l ((keptA (brkG g)).map encA), .l ((keepL (brkG g)).map encN)] := rfl
 rw [hout]
 simp (disch := omega) only [vt16, Gd.ds, VT.ok, Nd.holds, X.outs, X.ds, X.d, takeD_zero, takeD_cons, List.cons_append, List.nil_append, gz0, gs0, D.bool_b, and_true, F28, R28, F27, R27, F11600, R11600, hs, bk_eq, h2]
 exact ⟨fun _ => hs0, fun _ => hb0, fun _ => h1⟩
end Go.Proofs.YtinaaabmmjpijaaDoor.rv
namespace Go.Proofs.YtinaaabmmjpijaaDoor.rv
set_option maxRecDepth 10000
open Go.RV Lo Sx
theorem keepL_lt {B : List (Nat × Nat)} {k : Nat} (h : k < (keepL B).length) : (keepL B).getD k 0 < B.length ∧ (arc B ((keepL B).getD k 0)).1 ≠ (arc B ((keepL B).getD k 0)).2 := by
 have hm : (keepL B).getD k 0 ∈ keepL B := getD_mem 0 h
 obtain ⟨h1, h2⟩ := List.mem_filter.1 hm
 exact ⟨List.mem_range.1 h1, by simpa using h2⟩
theorem keptA_len (B : List (Nat × Nat)) : (keptA B).length = (keepL B).length := by simp [keptA]
theorem keptA_arc {B : List (Nat × Nat)} {k : Nat} (h : k < (keepL B).length) : arc (keptA B) k = arc B ((keepL B).getD k 0) := by
 simp [arc, keptA, List.getD, h]
theorem netK_len (Ar : List (Nat × Nat)) (K : List Nat) (E : List (List D)) (n : Nat) : (netK Ar K E n).length = n := by simp [netK]
theorem netK_succ (Ar : List (Nat × Nat)) (K : List Nat) (E : List (List D)) (n : Nat) : netK Ar K E (n + 1) = netK Ar K E n ++ [⟨(arc Ar n).1, (arc Ar n).2, cI (el E (K.getD n 0)) 6, cI (el E (K.getD n 0)) 5⟩] := by
 rw [netK, List.range_succ, List.map_append]; rfl
theorem catB {l : List Bd} {a b : Nat} {c d : Int} : l.map encB ++ [[D.i (a : Int), D.i (b : Int), D.i c, D.i d]] = (l ++ [Bd.mk a b c d]).map encB := cat_map encB l (Bd.mk a b c d)
theorem EOk.row {E : List (List D)} (h : EOk E) {e : Nat} (he : e < E.length) : (E.getD e []).getD 5 default = .i (cI (el E e) 5) ∧ (E.getD e []).getD 6 default = .i (cI (el E e) 6) := h _ (getD_mem [] he)
theorem loopM19_0 : LoopMeets Tryd.prog F (R L19_0.key) L19_0 lb19_0 := by
 refine loop_meets (pre := R) mixed (sgAt_all (P := Tryd.prog) (pre := R) (Φ := F) (l := sg19) (fcm ⟨m35, (fun _ h => nomatch h)⟩)) (loops_n 0 lk19_0 fun k hk => by omega) L19_0 (fun ρ => ((ρ.getD 1 default).int - (ρ.getD 2 default).int).toNat) le19_0 fun ρ _ hp => ?_
 obtain ⟨Ar, K, E, k, x1, x2, x3, x4, x5, x6, rfl, hk, hK, hKE, hE, hm⟩ : prRd ρ := hp
 have hnl := netK_len Ar K E k
 by_cases hlt : k < Ar.length
 ·have hr := rowA (l := Ar) hlt
  have hrK := rowNn (l := K) (i := k) (by omega)
  have he := hKE k (by omega)
  obtain ⟨w5, w6⟩ := hE.row he
  have hs := netK_succ Ar K E k
  have hnx : RoundOk F (R L19_0.key) (fun ρ => ((ρ.getD 1 default).int - (ρ.getD 2 default).int).toNat) L19_0 [.l (Ar.map encA), .i (Ar.length : Int), .i (k : Int), x1, .l (Ar.map encA), .l (K.map encN), x2, x3, x4, .l E, x5, x6, .l ((netK Ar K E k).map encB)] [.i (-1), .i ((k : Int) + 1), .l ((netK Ar K E (k + 1)).map encB)] := by
   refine round_next ⟨⟨Ar, K, E, k + 1, x1, x2, x3, x4, x5, x6, rfl, by omega, hK, hKE, hE, hm⟩, ?_, rfl⟩
   show ((Ar.length : Int) - ((k + 1 : Nat) : Int)).toNat < ((Ar.length : Int) - (k : Int)).toNat
   omega
  rw [hs] at hnx
  simp (disch := omega) only [rt19_0, VT.ok, Nd.holds, X.ds, X.d, Op1.ev, Op2.ev, gz0, gs0, D.int_i, D.bool_b, D.lst_l, tn0, lm0, implies_true, true_and, ↓reduceIte, dle_t, dlt_t, w64', lm0, hr, encA, hrK, encN, w5, w6, catB, List.length_append, List.length_singleton, hnl]
  exact hnx
 ·have hj : k = Ar.length := by omega
  subst hj
  simp (disch := omega) only [rt19_0, VT.ok, X.ds, X.d, Op2.ev, gz0, gs0, D.int_i, D.bool_b, fe0, ↓reduceIte, dlt_f]
  refine round_exit (by omega) ?_
  show lpRd _ = _
  simp only [lpRd, gz0, gs0, D.lst_l, map_dec decA_enc, map_dec decN_enc, lm0]
theorem loopM7_0 : LoopMeets Tryd.prog F (R L7_0.key) L7_0 lb7_0 := by
 refine loop_meets (pre := R) mixed (sgAt_all (P := Tryd.prog) (pre := R) (Φ := F) (l := sg7) (fcm ⟨m16, (fun _ h => nomatch h)⟩)) (loops_n 0 lk7_0 fun k hk => by omega) L7_0 (fun ρ => (((ρ.getD 0 default).lst.length : Int) - (ρ.getD 1 default).int).toNat) le7_0 fun ρ _ hp => ?_
 obtain ⟨Ar, K, E, k, x1, x2, x3, x4, x5, x6, rfl, hk, hK, hKE, hE, hm⟩ : prRn ρ := hp
 have hnl := netK_len Ar K E k
 by_cases hlt : k < K.length
 ·have hr := rowA (l := Ar) (i := k) (by omega)
  have hrK := rowNn (l := K) hlt
  have he := hKE k (by omega)
  obtain ⟨w5, w6⟩ := hE.row he
  have hs := netK_succ Ar K E k
  have hnx : RoundOk F (R L7_0.key) (fun ρ => (((ρ.getD 0 default).lst.length : Int) - (ρ.getD 1 default).int).toNat) L7_0 [.l (K.map encN), .i (k : Int), x1, x2, x3, .l E, x4, x5, .l (Ar.map encA), x6, .l ((netK Ar K E k).map encB)] [.i (-1), .i ((k : Int) + 1), .l ((netK Ar K E (k + 1)).map encB)] := by
   refine round_next ⟨⟨Ar, K, E, k + 1, x1, x2, x3, x4, x5, x6, rfl, by omega, hK, hKE, hE, hm⟩, ?_, ?_⟩
   ·show (((K.map encN).length : Int) - ((k + 1 : Nat) : Int)).toNat < (((K.map encN).length : Int) - (k : Int)).toNat
    rw [lm0]; omega
   ·rfl
  rw [hs] at hnx
  simp (disch := omega) only [rt7_0, VT.ok, Nd.holds, X.ds, X.d, Op1.ev, Op2.ev, gz0, gs0, D.int_i, D.bool_b, D.lst_l, tn0, lm0, implies_true, true_and, ↓reduceIte, dle_t, dlt_t, w64', lm0, hr, encA, hrK, encN, w5, w6, catB, List.length_append, List.length_singleton, hnl]
  exact hnx
 ·have hj : k = K.length := by omega
  subst hj
  simp (disch := omega) only [rt7_0, VT.ok, X.ds, X.d, Op1.ev, Op2.ev, gz0, gs0, D.int_i, D.bool_b, D.lst_l, lm0, fe0, ↓reduceIte, dlt_f, lm0]
  refine round_exit (by omega) ?_
  show lpRn _ = _
  simp only [lpRn, gz0, gs0, D.lst_l, map_dec decA_enc, map_dec decN_enc, lm0]
theorem GG.eok {g : Gd} (h : GG g) : EOk g.E := fun x hx => h.wl x hx
theorem m7 : Meets Tryd.prog 7 S7 (R 7) (F 7) := by
 refine meets_of_vt (pre := R) (Φ := F) mixed (sgAt_all (P := Tryd.prog) (pre := R) (Φ := F) (l := sg7) (fcm ⟨m16, (fun _ h => nomatch h)⟩)) Tryd.func7 b7 n7 (loops_n 1 k7 fun k hk => match k, hk with | 0, _ => loop_this lf7_0 loopM7_0) e7 fun ds _ hp => ?_
 have hp' := hp
 obtain ⟨g, rfl, hg⟩ : ggPre ds := hp
 have hE := hg.e
 have ha : acD [.s g.nm, .b g.dr, .l g.N, .l g.E, .l g.C] = [.i (g.N.length : Int), .l ((keptA (brkG g)).map encA), .l ((keepL (brkG g)).map encN)] := rfl
 have hl := brkG_len (g := g)
 have hkl : (keepL (brkG g)).length ≤ (brkG g).length := kpN_le _ _
 have hal := keptA_len (brkG g)
 have h1 : prRn [.l ((keepL (brkG g)).map encN), .i 0, .s g.nm, .b g.dr, .l g.N, .l g.E, .l g.C, .i (g.N.length : Int), .l ((keptA (brkG g)).map encA), .i (g.N.length : Int), .l []] := ⟨keptA (brkG g), keepL (brkG g), g.E, 0, _, _, _, _, _, _, rfl, Nat.zero_le _, hal, fun k hk => by have := (keepL_lt hk).1; omega, hg.eok, by omega⟩
 have h2 : lpRn [.l ((keepL (brkG g)).map encN), .i 0, .s g.nm, .b g.dr, .l g.N, .l g.E, .l g.C, .i (g.N.length : Int), .l ((keptA (brkG g)).map encA), .i (g.N.length : Int), .l []] = [.i 0, .i ((keepL (brkG g)).length : Int), .l ((netG g).map encB)] := by
  simp only [lpRn, gz0, gs0, D.lst_l, map_dec decA_enc, map_dec decN_enc, lm0]
  rw [← hal]; rfl
 have hout : F 7 g.ds = [.i (g.N.length : Int), .l ((netG g).map encB)] := rfl
 rw [hout]
 simp (disch := omega) only [vt7, Gd.ds, VT.ok, Nd.holds, X.outs, X.ds, X.d, takeD_zero, takeD_cons, List.cons_append, List.nil_append, gz0, gs0, D.bool_b, and_true, F16, R16, F10700, R10700, ha, h2]
 exact ⟨fun _ => hp', fun _ => h1⟩
theorem net_get {g : Gd} {k : Nat} (h : k < (keepL (brkG g)).length) : (netG g)[k]? = some ⟨(arc (brkG g) ((keepL (brkG g)).getD k 0)).1, (arc (brkG g) ((keepL (brkG g)).getD k 0)).2, cI (el g.E ((keepL (brkG g)).getD k 0)) 6, cI (el g.E ((keepL (brkG g)).getD k 0)) 5⟩ := by
 have : k < (keptA (brkG g)).length := by rw [keptA_len]; exact h
 rw [netG, netK, List.getElem?_map, List.getElem?_range this, Option.map_some, keptA_arc h]
theorem net_mem {g : Gd} {b : Bd} (h : b ∈ netG g) : ∃ i, i < g.E.length ∧ (arc (brkG g) i).1 ≠ (arc (brkG g) i).2 ∧ b = ⟨(arc (brkG g) i).1, (arc (brkG g) i).2, cI (el g.E i) 6, cI (el g.E i) 5⟩ := by
 obtain ⟨k, hk⟩ := List.getElem?_of_mem h
 have hkl : k < (keepL (brkG g)).length := by
  have h1 : k < (netG g).length := by
   rw [List.getElem?_eq_some_iff] at hk
   exact hk.1
  rw [netG, netK_len, keptA_len] at h1
  exact h1
 rw [net_get hkl] at hk
 obtain ⟨h1, h2⟩ := keepL_lt hkl
 exact ⟨_, by rw [← brkG_len (g := g)]; exact h1, h2, (Option.some.inj hk).symm⟩
theorem brk_arc {g : Gd} (hg : GG g) {i : Nat} (hi : i < g.E.length) : (arc (brkG g) i).1 < g.N.length ∧ (arc (brkG g) i).2 < g.N.length := by
 have hi' : i < (arcsG g.E).length := by rw [arcsG_len]; exact hi
 obtain ⟨a1, a2⟩ := arc_lt (okk_G hg) hi'
 rw [brkG, flipS_get _ _ hi']
 split
 ·exact ⟨a2, a1⟩
 ·exact ⟨a1, a2⟩
theorem net_valid {g : Gd} (hg : GG g) : Sx.Valid g.N.length (netG g) := by
 have h8 := hg.n8
 have hE := hg.e
 refine ⟨by omega, ?_, fun b hb => ?_⟩
 ·rw [netG, netK_len, keptA_len]
  have : (keepL (brkG g)).length ≤ (brkG g).length := kpN_le _ _
  rw [brkG_len] at this
  omega
 ·obtain ⟨i, hi, hne, rfl⟩ := net_mem hb
  obtain ⟨a1, a2⟩ := brk_arc hg hi
  obtain ⟨_, _, _, _, w1, w2, l1, l2⟩ := hg.bd _ (getD_mem [] hi)
  refine ⟨a1, a2, hne, ?_, ?_, ?_, ?_⟩
  ·show -16777216 ≤ cI (g.E.getD i []) 6; omega
  ·show cI (g.E.getD i []) 6 ≤ 16777216; omega
  ·show 0 ≤ cI (g.E.getD i []) 5; omega
  ·show cI (g.E.getD i []) 5 ≤ 8000; omega
theorem net_pot {g : Gd} (hg : GG g) : ∃ p, Pot (netG g) (List.replicate (netG g).length 0) p := by
 have hA := okk_G hg
 have hm : (arcsG g.E).length < 1048576 := by rw [arcsG_len]; have := hg.e; omega
 obtain ⟨⟨q, hq, _, he⟩, _⟩ := srch_spec (N := g.N.length) (A := arcsG g.E) g.N.length [] (Ord.nil _) (by simp)
 have hL : leastD g.N.length (arcsG g.E) = backL (arcsG g.E) q := by rw [least_same hg.n8 hA hm, he]
 refine ⟨fun v => 64 * (q.idxOf v : Int), fun k b hb => ⟨?_, fun h => ?_⟩⟩
 ·obtain ⟨i, hi, hne, rfl⟩ := net_mem (List.mem_of_getElem? hb)
  obtain ⟨_, _, _, _, w1, w2, l1, l2⟩ := hg.bd _ (getD_mem [] hi)
  have hi' : i < (arcsG g.E).length := by rw [arcsG_len]; exact hi
  have hlt : q.idxOf (arc (brkG g) i).1 < q.idxOf (arc (brkG g) i).2 := by
   obtain ⟨a1, a2⟩ := arc_lt hA hi'
   rw [brkG, flipS_get _ _ hi', hL] at hne ⊢
   by_cases hbk : i ∈ backL (arcsG g.E) q
   ·rw [if_pos hbk]
    have := (mem_back.1 hbk).2
    simpa [isBk, swp] using this
   ·rw [if_neg hbk] at hne ⊢
    have h1 : ¬ (q.idxOf (arc (arcsG g.E) i).2 < q.idxOf (arc (arcsG g.E) i).1) := fun h => hbk (mem_back.2 ⟨hi', by simpa [isBk] using h⟩)
    have h2 : q.idxOf (arc (arcsG g.E) i).1 ≠ q.idxOf (arc (arcsG g.E) i).2 := fun h => hne (idx_inj (hq.mem a1) h)
    omega
  show 64 * (q.idxOf (arc (brkG g) i).1 : Int) + cI (g.E.getD i []) 6 ≤ 64 * (q.idxOf (arc (brkG g) i).2 : Int)
  omega
 ·have : (List.replicate (netG g).length (0 : Int)).getD k 0 = 0 := by
   by_cases hk : k < (netG g).length <;> simp [List.getD, hk]
  rw [this] at h
  exact absurd h (by omega)
theorem m19 : Meets Tryd.prog 19 S19 (R 19) (F 19) := by
 refine meets_of_vt (pre := R) (Φ := F) mixed (sgAt_all (P := Tryd.prog) (pre := R) (Φ := F) (l := sg19) (fcm ⟨m35, (fun _ h => nomatch h)⟩)) Tryd.func19 b19 n19 (loops_n 1 k19 fun k hk => match k, hk with | 0, _ => loop_this lf19_0 loopM19_0) e19 fun ds _ hp => ?_
 obtain ⟨g, rfl, hg⟩ : rdPre ds := hp
 have hE := hg.e
 have hl := brkG_len (g := g)
 have hkl : (keepL (brkG g)).length ≤ (brkG g).length := kpN_le _ _
 have hal := keptA_len (brkG g)
 obtain ⟨p, hpot⟩ := net_pot hg
 have hsv : svPre [.i (g.N.length : Int), .l ((netG g).map encB)] := ⟨_, _, p, rfl, net_valid hg, hpot⟩
 have h1 : prRd [.l ((keptA (brkG g)).map encA), .i ((keptA (brkG g)).length : Int), .i 0, .i (g.N.length : Int), .l ((keptA (brkG g)).map encA), .l ((keepL (brkG g)).map encN), .s g.nm, .b g.dr, .l g.N, .l g.E, .l g.C, .i (g.N.length : Int), .l []] := ⟨keptA (brkG g), keepL (brkG g), g.E, 0, _, _, _, _, _, _, rfl, Nat.zero_le _, hal.symm, fun k hk => by have := (keepL_lt hk).1; omega, hg.eok, by omega⟩
 have h2 : lpRd [.l ((keptA (brkG g)).map encA), .i ((keptA (brkG g)).length : Int), .i 0, .i (g.N.length : Int), .l ((keptA (brkG g)).map encA), .l ((keepL (brkG g)).map encN), .s g.nm, .b g.dr, .l g.N, .l g.E, .l g.C, .i (g.N.length : Int), .l []] = [.i 0, .i ((keptA (brkG g)).length : Int), .l ((netG g).map encB)] := by
  simp only [lpRd, gz0, gs0, D.lst_l, map_dec decA_enc, map_dec decN_enc, lm0]
  rfl
 have hout : F 19 (.i (g.N.length : Int) :: .l ((keptA (brkG g)).map encA) :: .l ((keepL (brkG g)).map encN) :: g.ds) = svD [.i (g.N.length : Int), .l ((netG g).map encB)] := by
  show rdD _ = _
  simp only [rdD, Gd.ds, gz0, gs0, D.lst_l, map_dec decA_enc, map_dec decN_enc, lm0]
  rfl
 have hsd : svD [.i (g.N.length : Int), .l ((netG g).map encB)] = [.l ((solveR g.N.length (netG g)).map encI), .l ((cert g.N.length (netG g)).1.map encI), .i 0] := by
  simp only [svD, gz0, gs0, D.int_i, tn0, D.lst_l, map_dec decB_enc]
 rw [hout, hsd]
 simp (disch := omega) only [vt19, Gd.ds, VT.ok, Nd.holds, X.outs, X.ds, X.d, Op1.ev, takeD_zero, takeD_cons, List.cons_append, List.nil_append, gz0, gs0, D.bool_b, D.lst_l, lm0, and_true, F35, R35, F11900, R11900, lm0, h2, hsd]
 exact ⟨fun _ => h1, fun _ => hsv⟩
theorem loopM8_0 : LoopMeets Tryd.prog F (R L8_0.key) L8_0 lb8_0 := by
 refine loop_meets (pre := R) mixed (sgAt_all (P := Tryd.prog) (pre := R) (Φ := F) (l := sg8) (fcm ⟨m17, fcm ⟨m18, fcm ⟨m19, (fun _ h => nomatch h)⟩⟩⟩)) (loops_n 0 lk8_0 fun k hk => by omega) L8_0 (fun ρ => ((ρ.getD 2 default).int - (ρ.getD 3 default).int).toNat) le8_0 fun ρ _ hp => ?_
 obtain ⟨f, K, k, l, rfl, hk, hf, hK, hm⟩ : prRa ρ := hp
 by_cases hlt : k < K.length
 ·have hrK := rowNn (l := K) hlt
  have hrf := rowI (l := f) (i := k) (by omega)
  have hKl := hK k hlt
  have hrl := rowI (l := l) hKl
  have hst : l.set (K.getD k 0) (f.getD k 0) = setAt K f k l := rfl
  simp (disch := omega) only [rt8_0, VT.ok, Nd.holds, X.ds, X.d, Op1.ev, Op2.ev, gz0, gs0, D.int_i, D.bool_b, D.lst_l, tn0, lm0, implies_true, true_and, ↓reduceIte, dle_t, dlt_t, w64', lm0, hrK, encN, hrf, encI, hrl, splI, setI, hst]
  refine round_next ⟨⟨f, K, k + 1, setAt K f k l, rfl, by omega, hf, fun j hj => by rw [setAt, List.length_set]; exact hK j hj, hm⟩, ?_, ?_⟩
  ·show ((K.length : Int) - ((k + 1 : Nat) : Int)).toNat < ((K.length : Int) - (k : Int)).toNat
   omega
  ·show lpRa [.l (f.map encI), .l (K.map encN), .i (K.length : Int), .i ((k + 1 : Nat) : Int), .l ((setAt K f k l).map encI)] = lpRa [.l (f.map encI), .l (K.map encN), .i (K.length : Int), .i (k : Int), .l (l.map encI)]
   simp only [lpRa, gz0, gs0, D.int_i, tn0, D.lst_l, map_dec decN_enc, map_dec dec_encI]
   rw [fold_next (i := k) (s := l) hlt]
 ·have hj : k = K.length := by omega
  subst hj
  simp (disch := omega) only [rt8_0, VT.ok, X.ds, X.d, Op2.ev, gz0, gs0, D.int_i, D.bool_b, fe0, ↓reduceIte, dlt_f]
  refine round_exit (by omega) ?_
  show lpRa _ = _
  simp only [lpRa, gz0, gs0, D.int_i, tn0, D.lst_l, map_dec decN_enc, map_dec dec_encI, fold_end]
end Go.Proofs.YtinaaabmmjpijaaDoor.rv
namespace Go.Proofs.YtinaaabmmjpijaaDoor.rv
set_option maxRecDepth 10000
open Go.RV Lo Sx
theorem m8 : Meets Tryd.prog 8 S8 (R 8) (F 8) := by
 refine meets_of_vt (pre := R) (Φ := F) mixed (sgAt_all (P := Tryd.prog) (pre := R) (Φ := F) (l := sg8) (fcm ⟨m17, fcm ⟨m18, fcm ⟨m19, (fun _ h => nomatch h)⟩⟩⟩)) Tryd.func8 b8 n8 (loops_n 1 k8 fun k hk => match k, hk with | 0, _ => loop_this lf8_0 loopM8_0) e8 fun ds _ hp => ?_
 obtain ⟨g, rfl, hg, hv⟩ : raPre ds := hp
 have hE := hg.e
 have hva : validD [.s g.nm, .b g.dr, .l g.N, .l g.E, .l g.C] = [.i 0] := by
  show [D.i (validE g)] = _
  rw [hv]
 have hgp : ggPre [.s g.nm, .b g.dr, .l g.N, .l g.E, .l g.C] := ⟨g, rfl, hg⟩
 have ha : acD [.s g.nm, .b g.dr, .l g.N, .l g.E, .l g.C] = [.i (g.N.length : Int), .l ((keptA (brkG g)).map encA), .l ((keepL (brkG g)).map encN)] := rfl
 have hl := brkG_len (g := g)
 have hkl : (keepL (brkG g)).length ≤ (brkG g).length := kpN_le _ _
 have hal := keptA_len (brkG g)
 have hr1 : rdPre [.i (g.N.length : Int), .l ((keptA (brkG g)).map encA), .l ((keepL (brkG g)).map encN), .s g.nm, .b g.dr, .l g.N, .l g.E, .l g.C] := ⟨g, rfl, hg⟩
 have hr2 : rdD [.i (g.N.length : Int), .l ((keptA (brkG g)).map encA), .l ((keepL (brkG g)).map encN), .s g.nm, .b g.dr, .l g.N, .l g.E, .l g.C] = [.l ((solveR g.N.length (netG g)).map encI), .l ((cert g.N.length (netG g)).1.map encI), .i 0] := by
  have h1 : rdD [.i (g.N.length : Int), .l ((keptA (brkG g)).map encA), .l ((keepL (brkG g)).map encN), .s g.nm, .b g.dr, .l g.N, .l g.E, .l g.C] = svD [.i (g.N.length : Int), .l ((netG g).map encB)] := by
   simp only [rdD, gz0, gs0, D.lst_l, map_dec decA_enc, map_dec decN_enc, lm0]
   rfl
  rw [h1]
  simp only [svD, gz0, gs0, D.int_i, tn0, D.lst_l, map_dec decB_enc]
 obtain ⟨p, hpot⟩ := net_pot hg
 have hcf : (cert g.N.length (netG g)).1.length = (netG g).length := (cert_ok (net_valid hg) hpot).1.fl
 have hnl : (netG g).length = (keepL (brkG g)).length := by rw [netG, netK_len, hal]
 have hrep : List.replicate g.E.length [D.i 0] = (List.replicate g.E.length (0 : Int)).map encI := by rw [List.map_replicate]; rfl
 have h1 : prRa [.l ((cert g.N.length (netG g)).1.map encI), .l ((keepL (brkG g)).map encN), .i ((keepL (brkG g)).length : Int), .i 0, .l ((List.replicate g.E.length (0 : Int)).map encI)] := ⟨_, _, 0, _, rfl, Nat.zero_le _, by omega, fun k hk => by have := (keepL_lt hk).1; simp only [List.length_replicate]; omega, by omega⟩
 have h2 : lpRa [.l ((cert g.N.length (netG g)).1.map encI), .l ((keepL (brkG g)).map encN), .i ((keepL (brkG g)).length : Int), .i 0, .l ((List.replicate g.E.length (0 : Int)).map encI)] = [.i 0, .i ((keepL (brkG g)).length : Int), .l ((foldN (setAt (keepL (brkG g)) (cert g.N.length (netG g)).1) (keepL (brkG g)).length 0 (List.replicate g.E.length 0)).map encI)] := by
  simp only [lpRa, gz0, gs0, D.int_i, tn0, Int.toNat_zero, D.lst_l, map_dec decN_enc, map_dec dec_encI]
 have hout : F 8 g.ds = [.l ((solveR g.N.length (netG g)).map encI), .l ((foldN (setAt (keepL (brkG g)) (cert g.N.length (netG g)).1) (keepL (brkG g)).length 0 (List.replicate g.E.length 0)).map encI), .i 0] := rfl
 rw [hout]
 simp (disch := omega) only [vt8, Gd.ds, VT.ok, Nd.holds, X.outs, X.ds, X.d, Op1.ev, Op2.ev, takeD_zero, takeD_cons, List.cons_append, List.nil_append, gz0, gs0, D.int_i, D.bool_b, D.lst_l, tn0, lm0, fe0, implies_true, true_and, and_true, F17, R17, F18, R18, F19, R19, F10800, R10800, ↓reduceIte, dle_t, beq_t, lm0, hva, ha, hr2, hrep, h2, Bool.not_true, fe0]
 exact ⟨fun _ => hgp, fun _ => hr1, fun _ => h1⟩
theorem loopM15_0 : LoopMeets Tryd.prog F (R L15_0.key) L15_0 lb15_0 := by
 refine loop_meets (pre := R) mixed (sgAt_all (P := Tryd.prog) (pre := R) (Φ := F) (l := sg15) ((fun _ h => nomatch h))) (loops_n 0 lk15_0 fun k hk => by omega) L15_0 (fun ρ => (((ρ.getD 0 default).lst.length : Int) - (ρ.getD 3 default).int).toNat) le15_0 fun ρ _ hp => ?_
 obtain ⟨l, x, i, rfl, hi, hm⟩ : prSm ρ := hp
 by_cases hlt : i < l.length
 ·have hr := rowI (l := l) hlt
  simp (disch := omega) only [rt15_0, VT.ok, Nd.holds, X.ds, X.d, Op1.ev, Op2.ev, gz0, gs0, D.int_i, D.bool_b, D.lst_l, tn0, lm0, fe0, implies_true, true_and, ↓reduceIte, dle_t, dlt_t, w64', lm0, hr, encI, beq_self_eq_true, Bool.not_true, fe0]
  refine round_next ⟨⟨l, x, i + 1, rfl, by omega, hm⟩, ?_, rfl⟩
  show (((l.map encI).length : Int) - ((i + 1 : Nat) : Int)).toNat < (((l.map encI).length : Int) - (i : Int)).toNat
  rw [lm0]; omega
 ·have hj : i = l.length := by omega
  subst hj
  simp (disch := omega) only [rt15_0, VT.ok, X.ds, X.d, Op1.ev, Op2.ev, gz0, gs0, D.int_i, D.bool_b, D.lst_l, lm0, fe0, ↓reduceIte, dlt_f, lm0]
  refine round_exit (by omega) ?_
  show lpSm _ = _
  simp only [lpSm, gz0, gs0, D.lst_l, lm0]
theorem m15 : Meets Tryd.prog 15 S15 (R 15) (F 15) := by
 refine meets_of_vt (pre := R) (Φ := F) mixed (sgAt_all (P := Tryd.prog) (pre := R) (Φ := F) (l := sg15) ((fun _ h => nomatch h))) Tryd.func15 b15 n15 (loops_n 1 k15 fun k hk => match k, hk with | 0, _ => loop_this lf15_0 loopM15_0) e15 fun ds _ hp => ?_
 obtain ⟨l, rfl, hm⟩ : smPre ds := hp
 have h1 : prSm [.l (l.map encI), .l (l.map encI), .b false, .i 0] := ⟨l, _, 0, rfl, Nat.zero_le _, hm⟩
 have h2 : lpSm [.l (l.map encI), .l (l.map encI), .b false, .i 0] = [.i 1, .b false, .i (l.length : Int)] := by
  simp only [lpSm, gz0, gs0, D.lst_l, lm0]
 have hout : F 15 [.l (l.map encI), .l (l.map encI)] = [.b true] := rfl
 rw [hout]
 simp (disch := omega) only [vt15, VT.ok, Nd.holds, X.outs, X.ds, X.d, Op1.ev, Op2.ev, takeD_zero, takeD_cons, List.cons_append, List.nil_append, gz0, gs0, D.int_i, D.bool_b, D.lst_l, lm0, fe0, and_true, F11500, R11500, ↓reduceIte, beq_f, lm0, h2, beq_self_eq_true, Bool.not_true, fe0]
 exact fun _ => h1
theorem m14 : Meets Tryd.prog 14 S14 (R 14) (F 14) := by
 refine meets_of_vt (pre := R) (Φ := F) mixed (sgAt_all (P := Tryd.prog) (pre := R) (Φ := F) (l := sg14) ((fun _ h => nomatch h))) Tryd.func14 b14 n14 (loops_n 0 k14 fun k hk => by omega) e14 fun ds hf _ => ?_
 have e0 := fits0 hf.flat
 subst e0
 have hout : F 14 [] = fanG.ds := rfl
 rw [hout]
 simp only [vt14, VT.ok, Nd.holds, X.ds, X.d, Op1.ev, Op2.ev, D.int_i, D.bool_b, D.lst_l]
 exact ⟨by decide, by decide, rfl⟩
theorem fan_gg : GG fanG := ⟨by decide, by decide, fun x hx => by
  simp only [fanG, List.mem_cons, List.not_mem_nil, or_false] at hx
  rcases hx with rfl | rfl <;> exact ⟨rfl, rfl⟩, fun x hx => by
  simp only [fanG, List.mem_cons, List.not_mem_nil, or_false] at hx
  rcases hx with rfl | rfl <;> decide, fun x hx => by
  simp only [fanG, List.mem_cons, List.not_mem_nil, or_false] at hx
  rcases hx with rfl | rfl <;> exact ⟨rfl, rfl⟩⟩
theorem fan_valid : validE fanG = 0 := by decide +kernel
theorem fan_ranks : solveR fanG.N.length (netG fanG) = [0, 1, 1] := by decide +kernel
end Go.Proofs.YtinaaabmmjpijaaDoor.rv
namespace Go.Proofs.YtinaaabmmjpijaaDoor.rv
set_option maxRecDepth 10000
open Go.RV Lo Sx
theorem m6 : Meets Tryd.prog 6 S6 (R 6) (F 6) := by
 refine meets_of_vt (pre := R) (Φ := F) mixed (sgAt_all (P := Tryd.prog) (pre := R) (Φ := F) (l := sg6) (fcm ⟨m14, fcm ⟨m8, fcm ⟨m15, (fun _ h => nomatch h)⟩⟩⟩)) Tryd.func6 b6 n6 (loops_n 0 k6 fun k hk => by omega) e6 fun ds hf _ => ?_
 have e0 := fits0 hf.flat
 subst e0
 have hfan : fanD [] = [.s fanG.nm, .b fanG.dr, .l fanG.N, .l fanG.E, .l fanG.C] := rfl
 have hra : ∃ f, raD [.s fanG.nm, .b fanG.dr, .l fanG.N, .l fanG.E, .l fanG.C] = [.l (([0, 1, 1] : List Int).map encI), .l f, .i 0] := ⟨_, by
  show [D.l ((solveR fanG.N.length (netG fanG)).map encI), _, _] = _
  rw [fan_ranks]⟩
 obtain ⟨f, hra⟩ := hra
 have h8 : raPre [.s fanG.nm, .b fanG.dr, .l fanG.N, .l fanG.E, .l fanG.C] := ⟨fanG, rfl, fan_gg, fan_valid⟩
 have h14 : anyP [] := trivial
 have h15 : smPre [.l (([0, 1, 1] : List Int).map encI), .l [[.i 0], [.i 1], [.i 1]]] := ⟨[0, 1, 1], rfl, by decide⟩
 have hok : ∀ x, okD x = [.b true] := fun _ => rfl
 have hout : F 6 [] = [.b true] := rfl
 rw [hout]
 simp (disch := omega) only [vt6, VT.ok, Nd.holds, X.outs, X.ds, X.d, Op2.ev, takeD_zero, takeD_cons, List.cons_append, List.nil_append, gz0, gs0, D.int_i, D.bool_b, D.lst_l, and_true, F8, R8, F15, R15, F14, R14, ↓reduceIte, beq_t, hfan, hra, hok]
 exact ⟨fun _ => h14, fun _ => h8, fun _ => h15⟩
theorem loopM3_0 : LoopMeets Tryd.prog F (R L3_0.key) L3_0 lb3_0 := by
 refine loop_meets (pre := R) mixed (sgAt_all (P := Tryd.prog) (pre := R) (Φ := F) (l := sg3) (fcm ⟨m4, fcm ⟨m5, fcm ⟨m6, fcm ⟨m7, fcm ⟨m8, fcm ⟨m9, (fun _ h => nomatch h)⟩⟩⟩⟩⟩⟩)) (loops_n 0 lk3_0 fun k hk => by omega) L3_0 (fun ρ => (((ρ.getD 3 default).lst.length : Int) - (ρ.getD 1 default).int).toNat) le3_0 fun ρ _ hp => ?_
 obtain ⟨v, a, b, xs, ys, j, rfl, hj, hl, hm⟩ : prLw ρ := hp
 have hok : ∀ x, okD x = [.b true] := fun _ => rfl
 by_cases hlt : j < xs.length
 ·simp (disch := omega) only [rt3_0, VT.ok, Nd.holds, X.outs, X.ds, X.d, Op1.ev, Op2.ev, takeD_zero, takeD_cons, List.cons_append, List.nil_append, gz0, gs0, D.int_i, D.bool_b, D.lst_l, ite_b, ite_and, tn0, implies_true, true_and, F6, R6, ↓reduceIte, dle_t, dlt_t, w64', hok]
  show if dfB xs ys j = true then _ else _
  cases hb : dfB xs ys j
  ·rw [if_neg (by decide)]
   refine round_next ⟨⟨v, a, b, xs, ys, j + 1, rfl, by omega, hl, hm⟩, ?_, ?_⟩
   ·show ((xs.length : Int) - ((j + 1 : Nat) : Int)).toNat < ((xs.length : Int) - (j : Int)).toNat
    omega
   ·show lpLw [v, .i ((j + 1 : Nat) : Int), a, .l xs, b, .l ys] = lpLw [v, .i (j : Int), a, .l xs, b, .l ys]
    simp only [lpLw, gz0, gs0, D.int_i, tn0, D.lst_l]
    exact scan_next hlt hb
  ·rw [if_pos rfl]
   refine ⟨fun _ => trivial, round_exit (by omega) ?_⟩
   show lpLw [v, .i (j : Int), a, .l xs, b, .l ys] = _
   simp only [lpLw, gz0, gs0, D.int_i, tn0, D.lst_l]
   exact scan_hit hlt hb
 ·have hj' : j = xs.length := by omega
  subst hj'
  simp (disch := omega) only [rt3_0, VT.ok, X.ds, X.d, Op1.ev, Op2.ev, gz0, gs0, D.int_i, D.bool_b, D.lst_l, fe0, ↓reduceIte, dlt_f]
  refine round_exit (by omega) ?_
  show lpLw [v, .i (xs.length : Int), a, .l xs, b, .l ys] = _
  simp only [lpLw, gz0, gs0, D.int_i, tn0, D.lst_l]
  exact scan_end
theorem edgeT {x : List D} (h : FitsF [.int .i64, .int .i64, .int .i64, .int .i64, .str, .int .i64, .int .i64] x) : x = [.i (cI x 0), .i (cI x 1), .i (cI x 2), .i (cI x 3), .s (cS x 4), .i (cI x 5), .i (cI x 6)] := by
 match x, h with
 | [d0, d1, d2, d3, d4, d5, d6], ⟨h0, h1, h2, h3, h4, h5, h6, _⟩ =>
  obtain ⟨z0, rfl, _⟩ := wf_i64 h0
  obtain ⟨z1, rfl, _⟩ := wf_i64 h1
  obtain ⟨z2, rfl, _⟩ := wf_i64 h2
  obtain ⟨z3, rfl, _⟩ := wf_i64 h3
  obtain ⟨s4, rfl, _⟩ := wf_str h4
  obtain ⟨z5, rfl, _⟩ := wf_i64 h5
  obtain ⟨z6, rfl, _⟩ := wf_i64 h6
  rfl
theorem valid_edges {g : Gd} (h : validE g = 0) : ∀ x ∈ g.E, edgeE g.N x = 0 := by
 unfold validE at h
 split at h
 ·omega
 ·split at h
  ·split at h
   ·split at h
    ·intro x hx
     obtain ⟨i, hi⟩ := List.getElem?_of_mem hx
     have hil : i < g.E.length := (List.getElem?_eq_some_iff.1 hi).1
     have := fe_ok.1 h i hil
     have he : el g.E i = x := by simp [el, List.getD, hi]
     rwa [he] at this
    ·rename_i h1 h2; exact absurd h h2
   ·rename_i h1; exact absurd h h1
  ·omega
theorem gg_of {g : Gd} (h8 : g.N.length ≤ 8) (hE : g.E.length ≤ 10) (hv : validE g = 0) (ht : ∀ x ∈ g.E, x = [.i (cI x 0), .i (cI x 1), .i (cI x 2), .i (cI x 3), .s (cS x 4), .i (cI x 5), .i (cI x 6)]) : GG g := by
 refine ⟨h8, by omega, fun x hx => ?_, fun x hx => ?_, fun x hx => ?_⟩
 ·have := ht x hx
  generalize cI x 0 = z0, cI x 1 = z1, cI x 2 = z2, cI x 3 = z3, cS x 4 = s4, cI x 5 = z5, cI x 6 = z6 at this ⊢
  subst this
  exact ⟨rfl, rfl⟩
 ·have := valid_edges hv x hx
  unfold edgeE at this
  split at this
  ·rename_i h1
   split at this
   ·split at this
    ·rename_i h3
     exact ⟨h1.1, h1.2.1, h1.2.2.1, h1.2.2.2.1, h3.1, h3.2.1, h3.2.2.1, h3.2.2.2⟩
    ·omega
   ·rename_i h2; exact absurd this h2
  ·omega
 ·have := ht x hx
  generalize cI x 0 = z0, cI x 1 = z1, cI x 2 = z2, cI x 3 = z3, cS x 4 = s4, cI x 5 = z5, cI x 6 = z6 at this ⊢
  subst this
  exact ⟨rfl, rfl⟩
theorem flip_loop (A : List (Nat × Nat)) (S : List Nat) {i : Nat} (h : i < A.length) : ((arc (flipS A S) i).1 ≠ (arc (flipS A S) i).2) = ((arc A i).1 ≠ (arc A i).2) := by
 rw [flipS_get A S h]
 split
 ·apply propext
  constructor
  ·intro h e; exact h e.symm
  ·intro h e; exact h e.symm
 ·rfl
theorem arc_snoc {A : List (Nat × Nat)} {a : Nat × Nat} {i : Nat} (h : i < A.length) : arc (A ++ [a]) i = arc A i := by
 unfold arc
 rw [List.getD_eq_getElem?_getD, List.getElem?_append_left h, List.getD_eq_getElem?_getD]
theorem arc_last {A : List (Nat × Nat)} {a : Nat × Nat} : arc (A ++ [a]) A.length = a := by simp [arc, List.getD]
theorem keep_more {A : List (Nat × Nat)} {a : Nat × Nat} (S S' : List Nat) (ha : a.1 ≠ a.2) : keepL (flipS (A ++ [a]) S') = keepL (flipS A S) ++ [A.length] := by
 have hl : (flipS (A ++ [a]) S').length = A.length + 1 := by rw [flipS_len]; simp
 have hA : A.length < (A ++ [a]).length := by simp
 rw [keepL, hl, kpN_succ, keepL, flipS_len]
 congr 1
 ·refine List.filter_congr fun i hi => ?_
  have hi' : i < A.length := List.mem_range.1 hi
  have h1 := flip_loop (A ++ [a]) S' (i := i) (by omega)
  have h2 := flip_loop A S hi'
  rw [arc_snoc hi'] at h1
  rw [decide_eq_decide, h1, h2]
 ·have h1 := flip_loop (A ++ [a]) S' hA
  rw [arc_last] at h1
  rw [if_pos (h1.symm ▸ ha)]
end Go.Proofs.YtinaaabmmjpijaaDoor.rv
namespace Go.Proofs.YtinaaabmmjpijaaDoor.rv
set_option maxRecDepth 10000
open Go.RV Lo Sx
theorem costF_snoc (b : Bd) (r : Nat → Int) : ∀ B : List Bd, costF (B ++ [b]) r = costF B r + b.w * (r b.to - r b.fr)
 | [] => by simp [costF]
 | c :: B => by
  rw [List.cons_append, costF, costF, costF_snoc b r B, Int.add_assoc]
theorem costF_bd {r : Nat → Int} (hr : ∀ v, -34359738368 ≤ r v ∧ r v ≤ 34359738368) : ∀ B : List Bd, (∀ b ∈ B, 0 ≤ b.w ∧ b.w ≤ 8000) → -(549755813888000 * (B.length : Int)) ≤ costF B r ∧ costF B r ≤ 549755813888000 * (B.length : Int)
 | [], _ => by simp [costF]
 | b :: B, h => by
  obtain ⟨h1, h2⟩ := costF_bd hr B fun x hx => h x (List.mem_cons_of_mem _ hx)
  obtain ⟨w1, w2⟩ := h b (List.mem_cons_self ..)
  have a1 := hr b.to
  have a2 := hr b.fr
  obtain ⟨m1, m2⟩ := mul_bd (d := r b.to - r b.fr) w1 w2 (by omega) (by omega)
  rw [costF]
  simp only [List.length_cons]
  omega
def rk (g : Gd) : List Int := solveR g.N.length (netG g)
theorem net_more {g h : Gd} {x : List D} (hEE : h.E = g.E ++ [x]) (hne : (cI x 0).toNat ≠ (cI x 1).toNat) : keepL (brkG h) = keepL (brkG g) ++ [g.E.length] := by
 have e : arcsG h.E = arcsG g.E ++ [((cI x 0).toNat, (cI x 1).toNat)] := by rw [hEE, arcsG, List.map_append]; rfl
 rw [brkG, e, keep_more (leastD g.N.length (arcsG g.E)) _ hne, arcsG_len]
 rfl
theorem grows {g h : Gd} {x : List D} (hg : GG g) (hh : GG h) (hEE : h.E = g.E ++ [x]) (_hNN : h.N = g.N) (hne : (cI x 0).toNat ≠ (cI x 1).toNat) :
  (netG h).length = (netG g).length + 1 ∧ ((∀ k, k < (netG g).length → (netG g)[k]? = (netG h)[k]?) → costF (netG g) (fun v => (rk g).getD v 0) + cI x 5 * cI x 6 ≤ costF (netG h) (fun v => (rk h).getD v 0)) := by
 have hk := net_more (h := h) (g := g) hEE hne
 have hlen : ∀ g : Gd, (netG g).length = (keepL (brkG g)).length := fun g => by rw [netG, netK_len, keptA_len]
 have hl : (netG h).length = (netG g).length + 1 := by rw [hlen, hlen, hk]; simp
 refine ⟨hl, fun hsame => ?_⟩
 obtain ⟨p, hpg⟩ := net_pot hg
 obtain ⟨q, hph⟩ := net_pot hh
 obtain ⟨_, o2, _, _⟩ := solve_opt (net_valid hg) hpg
 obtain ⟨o1, _, _, _⟩ := solve_opt (net_valid hh) hph
 have hL : (keepL (brkG g)).length < (keepL (brkG h)).length := by rw [hk]; simp
 have hlast := net_get (g := h) hL
 have hidx : (keepL (brkG h)).getD (keepL (brkG g)).length 0 = g.E.length := by rw [hk]; simp [List.getD]
 have hel : el h.E g.E.length = x := by rw [hEE]; simp [el, List.getD]
 rw [hidx, hel] at hlast
 have hsplit : netG h = netG g ++ [⟨(arc (brkG h) g.E.length).1, (arc (brkG h) g.E.length).2, cI x 6, cI x 5⟩] := by
  refine List.ext_getElem? fun k => ?_
  by_cases h1 : k < (netG g).length
  ·rw [List.getElem?_append_left h1, hsame k h1]
  ·by_cases h2 : k = (netG g).length
   ·subst h2
    rw [List.getElem?_append_right (by omega), Nat.sub_self, hlen g]
    exact hlast
   ·rw [List.getElem?_eq_none (by omega), List.getElem?_eq_none (by simp; omega)]
 have hfeas : ∀ b ∈ netG h, (rk h).getD b.fr 0 + b.len ≤ (rk h).getD b.to 0 := fun b hb => by
  obtain ⟨i, hi⟩ := List.getElem?_of_mem hb
  exact (o1 i b hi).1
 have h1 : costF (netG g) (fun v => (rk g).getD v 0) ≤ costF (netG g) (fun v => (rk h).getD v 0) := o2 _ fun b hb => hfeas b (by rw [hsplit]; exact List.mem_append_left _ hb)
 have h2 := hfeas ⟨(arc (brkG h) g.E.length).1, (arc (brkG h) g.E.length).2, cI x 6, cI x 5⟩ (by rw [hsplit]; simp)
 have hx : x ∈ h.E := by rw [hEE]; simp
 obtain ⟨_, _, _, _, w1, _⟩ := hh.bd x hx
 have h2 : (rk h).getD (arc (brkG h) g.E.length).1 0 + cI x 6 ≤ (rk h).getD (arc (brkG h) g.E.length).2 0 := h2
 have h3 : cI x 5 * cI x 6 ≤ cI x 5 * ((rk h).getD (arc (brkG h) g.E.length).2 0 - (rk h).getD (arc (brkG h) g.E.length).1 0) := Int.mul_le_mul_of_nonneg_left (by omega) (by omega)
 conv => rhs; rw [hsplit, costF_snoc]
 exact Int.add_le_add h1 h3
theorem edgeX {x : List D} (h : FitsF [.int .i64, .int .i64, .int .i64, .int .i64, .str, .int .i64, .int .i64] x) : ∃ (z0 z1 z2 z3 : Int) (s : ByteArray) (z5 z6 : Int), x = [.i z0, .i z1, .i z2, .i z3, .s s, .i z5, .i z6] := ⟨_, _, _, _, _, _, _, edgeT h⟩
theorem node6 {x : List D} {e : TypeId} {c : List CT} (h : FitsF [.str, .str, .int .i64, .int .i64, .int .i64, .sl e c] x) : x.getD 5 default = .l (cL x 5) := by
 match x, h with
 | [d0, d1, d2, d3, d4, d5], ⟨_, _, _, _, _, h5, _⟩ =>
  obtain ⟨xs, rfl, _⟩ := wf_sl h5
  rfl
theorem few_len {g : Gd} (h : fewB g 8 10 = true) : g.N.length ≤ 8 ∧ g.E.length ≤ 10 := by
 unfold fewB at h
 rw [Bool.and_eq_true, Bool.not_eq_true'] at h
 have h1 := h.1
 simp only [Bool.or_eq_false_iff, decide_eq_false_iff_not] at h1
 omega
theorem m3 : Meets Tryd.prog 3 S3 (R 3) (F 3) := by
 refine meets_of_vt (pre := R) (Φ := F) mixed (sgAt_all (P := Tryd.prog) (pre := R) (Φ := F) (l := sg3) (fcm ⟨m4, fcm ⟨m5, fcm ⟨m6, fcm ⟨m7, fcm ⟨m8, fcm ⟨m9, (fun _ h => nomatch h)⟩⟩⟩⟩⟩⟩)) Tryd.func3 b3 n3 (loops_n 1 k3 fun k hk => match k, hk with | 0, _ => loop_this lf3_0 loopM3_0) e3 fun ds hf hp => ?_
 obtain ⟨g, x, rfl, hx, hnm, ⟨hNl, hNf⟩, ⟨hEl, hEf⟩, _⟩ := fitsG hf.flat
 obtain ⟨z0, z1, z2, z3, s, z5, z6, rfl⟩ := edgeX hx
 have hp : g.E.length < 2199023255552 := hp
 obtain ⟨h, hh⟩ : ∃ h : Gd, h = ⟨g.nm, g.dr, g.N, g.E ++ [[.i z0, .i z1, .i z2, .i z3, .s s, .i z5, .i z6]], g.C⟩ := ⟨_, rfl⟩
 have hE : h.E = g.E ++ [[.i z0, .i z1, .i z2, .i z3, .s s, .i z5, .i z6]] := by rw [hh]
 have hEl' : h.E.length = g.E.length + 1 := by rw [hE]; simp
 have hds : ∀ t, (D.s g.nm :: .b g.dr :: .l g.N :: .l (g.E ++ [[.i z0, .i z1, .i z2, .i z3, .s s, .i z5, .i z6]]) :: .l g.C :: t) = .s h.nm :: .b h.dr :: .l h.N :: .l h.E :: .l h.C :: t := fun t => by rw [hh]
 have hle1 : decide (((g.E).length : Int) ≤ 2199023255552) = true := decide_eq_true (by omega)
 have hle2 : decide (((g.E ++ [[D.i z0, D.i z1, D.i z2, D.i z3, D.s s, D.i z5, D.i z6]]).length : Int) ≤ 2199023255552) = true := decide_eq_true (by simp; omega)
 have hfw : fewD [.s h.nm, .b h.dr, .l h.N, .l h.E, .l h.C, .i 8, .i 10] = [.b (fewB h 8 10)] := rfl
 have hvg : validD [.s g.nm, .b g.dr, .l g.N, .l g.E, .l g.C] = [.i (validE g)] := rfl
 have hvh : validD [.s h.nm, .b h.dr, .l h.N, .l h.E, .l h.C] = [.i (validE h)] := rfl
 have hok : ∀ x, okD x = [.b true] := fun _ => rfl
 have hout : ∀ x, F 3 x = [.b true] := fun _ => rfl
 rw [hout]
 have hrn : rnD [.s g.nm, .b g.dr, .l g.N, .l g.E, .l g.C] = [.i (g.N.length : Int), .l ((netG g).map encB)] := rfl
 have hrn' : rnD [.s h.nm, .b h.dr, .l h.N, .l h.E, .l h.C] = [.i (h.N.length : Int), .l ((netG h).map encB)] := rfl
 have hra : ∃ f, raD [.s g.nm, .b g.dr, .l g.N, .l g.E, .l g.C] = [.l ((rk g).map encI), .l f, .i 0] := ⟨_, rfl⟩
 have hra' : ∃ f, raD [.s h.nm, .b h.dr, .l h.N, .l h.E, .l h.C] = [.l ((rk h).map encI), .l f, .i 0] := ⟨_, rfl⟩
 obtain ⟨f1, hra⟩ := hra
 obtain ⟨f2, hra'⟩ := hra'
 have hco : costD [.i (g.N.length : Int), .l ((netG g).map encB), .l ((rk g).map encI)] = [.i (costF (netG g) fun v => (rk g).getD v 0)] := by
  simp only [costD, gz0, gs0, D.lst_l, map_dec decB_enc, map_dec dec_encI]
 have hco' : costD [.i (h.N.length : Int), .l ((netG h).map encB), .l ((rk h).map encI)] = [.i (costF (netG h) fun v => (rk h).getD v 0)] := by
  simp only [costD, gz0, gs0, D.lst_l, map_dec decB_enc, map_dec dec_encI]
 obtain ⟨q, v1, j, hsc, hq⟩ : ∃ (q : Int) (v1 : Bool) (j : Nat), scanN (dfB ((netG g).map encB) ((netG h).map encB)) (fun j => [.i 0, .b true, .i (j : Int)]) (fun j => [.i 1, .b false, .i (j : Int)]) (netG g).length 0 = [.i q, .b v1, .i (j : Int)] ∧ ((q = 0 ∧ v1 = true) ∨ (q = 1 ∧ ∀ k, k < (netG g).length → dfB ((netG g).map encB) ((netG h).map encB) k = false)) := by
  rcases scan_any (p := dfB ((netG g).map encB) ((netG h).map encB)) (hit := fun j => [.i 0, .b true, .i (j : Int)]) (miss := fun j => [.i 1, .b false, .i (j : Int)]) (netG g).length with ⟨_, j, _, _, _, e⟩ | ⟨e1, e⟩
  ·exact ⟨0, true, j, e, .inl ⟨rfl, rfl⟩⟩
  ·exact ⟨1, false, _, e, .inr ⟨rfl, anyN_false.1 e1⟩⟩
 have hlw : lpLw [.b false, .i 0, .i (g.N.length : Int), .l ((netG g).map encB), .i (h.N.length : Int), .l ((netG h).map encB)] = [.i q, .b v1, .i (j : Int)] := by
  rw [← hsc]
  simp only [lpLw, gz0, gs0, D.int_i, Int.toNat_zero, D.lst_l, lm0, Nat.sub_zero]
 have hfp : fewPre [.s h.nm, .b h.dr, .l h.N, .l h.E, .l h.C, .i 8, .i 10] := ⟨h, rfl, fun y hy => node6 (hNf y (by rw [hh] at hy; exact hy))⟩
 simp (disch := omega) only [vt3, VT.ok, Nd.holds, X.outs, X.ds, X.d, Op1.ev, Op2.ev, takeD_zero, takeD_cons, List.cons_append, List.nil_append, gz0, gs0, D.int_i, D.bool_b, D.lst_l, ite_b, ite_or, ite_and, lm0, implies_true, true_and, and_true, F5, R5, F9, R9, F4, R4, F8, R8, F7, R7, F6, R6, F10300, R10300, hle1, hle2, hds, hfw, hvg, hvh, hok, hrn, hrn', hra, hra', hco, hco', hlw, lm0]
 refine ⟨fun _ => hfp, ?_⟩
 by_cases hc : (((!fewB h 8 10 || !(validE g == 0)) || !(validE h == 0)) || (z0 == z1)) = true
 ·rw [if_pos hc]
  exact fun _ => trivial
 ·rw [if_neg hc]
  simp only [Bool.or_eq_true, Bool.not_eq_true', beq_iff_eq, beq_eq_false_iff_ne, not_or, Bool.not_eq_false, ne_eq, Decidable.not_not] at hc
  obtain ⟨⟨⟨c1, c2⟩, c3⟩, c4⟩ := hc
  obtain ⟨n8, e10⟩ := few_len c1
  have hNN : h.N = g.N := by rw [hh]
  have hg : GG g := gg_of (by rw [← hNN]; exact n8) (by omega) c2 fun y hy => edgeT (hEf y hy)
  have hgh : GG h := gg_of n8 e10 c3 fun y hy => by
   rw [hE] at hy
   rcases List.mem_append.1 hy with hy | hy
   ·exact edgeT (hEf y hy)
   ·rw [List.mem_singleton] at hy
    rw [hy]; rfl
  have hbd := hgh.bd _ (by rw [hE]; simp : [D.i z0, .i z1, .i z2, .i z3, .s s, .i z5, .i z6] ∈ h.E)
  obtain ⟨u0, u1, u2, u3, u4, b5, u6, b7⟩ : 0 ≤ z0 ∧ z0 < h.N.length ∧ 0 ≤ z1 ∧ z1 < h.N.length ∧ 1 ≤ z5 ∧ z5 ≤ 1000 ∧ 1 ≤ z6 ∧ z6 ≤ 64 := hbd
  obtain ⟨g1, g2⟩ := grows hg hgh hE hNN (by show z0.toNat ≠ z1.toNat; omega)
  have hlen : ∀ g : Gd, GG g → (netG g).length ≤ 256 := fun g hg => by
   rw [netG, netK_len, keptA_len]
   have h1 : (keepL (brkG g)).length ≤ (brkG g).length := kpN_le _ _
   rw [brkG_len] at h1
   have := hg.e
   omega
  have hlg := hlen g hg
  have hlh := hlen h hgh
  obtain ⟨p1, hp1⟩ := net_pot hg
  obtain ⟨p2, hp2⟩ := net_pot hgh
  obtain ⟨_, _, r1, r2⟩ := solve_opt (net_valid hg) hp1
  obtain ⟨_, _, r3, r4⟩ := solve_opt (net_valid hgh) hp2
  have k1 : rkPre [.i (h.N.length : Int), .l ((netG h).map encB), .l ((rk h).map encI)] := ⟨_, _, _, rfl, net_valid hgh, r3, r4⟩
  have k2 : rkPre [.i (g.N.length : Int), .l ((netG g).map encB), .l ((rk g).map encI)] := ⟨_, _, _, rfl, net_valid hg, r1, r2⟩
  have hprl : prLw [.b false, .i 0, .i (g.N.length : Int), .l ((netG g).map encB), .i (h.N.length : Int), .l ((netG h).map encB)] := ⟨_, _, _, _, _, 0, rfl, Nat.zero_le _, by simp only [lm0]; omega, by simp only [lm0]; omega⟩
  refine ⟨fun _ => ⟨g, rfl, hg⟩, fun _ => ⟨h, rfl, hgh⟩, ?_⟩
  have hw : IntKind.i64.wrap (((netG g).length : Int) + 1) = ((netG h).length : Int) := by rw [w64 (by omega)]; omega
  rw [hw, beq_self_eq_true, if_neg (by decide)]
  refine ⟨fun _ => hprl, ?_⟩
  rcases hq with ⟨rfl, rfl⟩ | ⟨rfl, hq⟩
  ·rw [if_pos (by decide)]
  ·rw [if_neg (by decide)]
   have hsame : ∀ k, k < (netG g).length → (netG g)[k]? = (netG h)[k]? := fun k hk => by
    have hd := hq k hk
    have hk' : k < (netG h).length := by omega
    have s1 : el ((netG g).map encB) k = encB ((netG g).getD k b0) := rowB hk
    have s2 : el ((netG h).map encB) k = encB ((netG h).getD k b0) := rowB hk'
    rw [dfB, s1, s2] at hd
    have e : (netG g).getD k b0 = (netG h).getD k b0 := by
     generalize (netG g).getD k b0 = x1 at hd ⊢
     generalize (netG h).getD k b0 = x2 at hd ⊢
     obtain ⟨a1, a2, a3, a4⟩ := x1
     obtain ⟨a5, a6, a7, a8⟩ := x2
     simp only [encB, cI, gz0, gs0, D.int_i, Bool.not_eq_false', Bool.and_eq_true, beq_iff_eq] at hd
     obtain ⟨d1, d2, d3, d4⟩ := hd
     have d1 : a1 = a5 := by omega
     have d2 : a2 = a6 := by omega
     rw [d1, d2, d3, d4]
    rw [List.getElem?_eq_getElem hk, List.getElem?_eq_getElem hk']
    simpa [List.getD, hk, hk'] using e
   have hgr : costF (netG g) (fun v => (rk g).getD v 0) + z5 * z6 ≤ costF (netG h) (fun v => (rk h).getD v 0) := g2 hsame
   have m1 : z5 * z6 ≤ 1000 * 64 := Int.mul_le_mul b5 b7 (by omega) (by omega)
   have m0 : 0 ≤ z5 * z6 := Int.mul_nonneg (by omega) (by omega)
   obtain ⟨q1, q2⟩ := costF_bd (r := fun v => (rk g).getD v 0) r2 (netG g) fun b hb => ⟨((net_valid hg).ok b hb).2.2.2.2.2.1, ((net_valid hg).ok b hb).2.2.2.2.2.2⟩
   have w1 : IntKind.i64.wrap (z5 * z6) = z5 * z6 := w64 (by omega)
   have w2 : IntKind.i64.wrap (costF (netG g) (fun v => (rk g).getD v 0) + z5 * z6) = costF (netG g) (fun v => (rk g).getD v 0) + z5 * z6 := w64 (by omega)
   rw [w1, w2, decide_eq_true hgr]
   exact ⟨fun _ => ⟨g, rfl, hg, c2⟩, fun _ => ⟨h, rfl, hgh, c3⟩, fun _ => k1, fun _ => k2, fun _ => trivial, rfl⟩
end Go.Proofs.YtinaaabmmjpijaaDoor.rv
