/-
  Nested clusters: the loop over the clusters, sizes.; Nested clusters: places of nodes and clusters: the program.; Graphs: members, depths, common clusters.; Nested clusters: compound.Place.; Nested clusters: the reference's places.; Graphs: chains of clusters, without a program.; Nested clusters: checks of the program: inside, apart.; Nested clusters: Check of the program.; Nested clusters: equal lists, small graphs.
-/
import Derived.Test.YtindllmeeckfcaaZCompoundApartL
namespace Go.Proofs.Ytindllmeeckfcaa.rv
set_option maxRecDepth 10000
open Go.RV
theorem round_step {Φ : FuncId → List D → List D} {pre : List D → Prop} {μ : List D → Nat} {L : LoopSig} {ρ vals : List D} (ρ' : List D) (hs : setVars ρ L.wv vals = ρ') (h1 : pre ρ') (h2 : μ ρ' < μ ρ) (h3 : Φ L.key ρ' = Φ L.key ρ) : RoundOk Φ pre μ L ρ (.i (-1) :: vals) :=
  round_next (by rw [hs]; exact ⟨h1, h2, h3⟩)
theorem updTs {T : List (List Tp)} {i : Nat} {t : List Tp} (h : i < T.length) : (T.map encTs).set i (splice ((T.map encTs).getD i []) 0 [.l (t.map encT)]) = (T.set i t).map encTs := by
  have e : (T.map encTs).getD i [] = encTs (T.getD i []) := row_get (enc := encTs) [] h
  rw [e, List.map_set]; rfl
theorem updP {S : List Pt} {i : Nat} {a b : Int} (h : i < S.length) : (S.map encP).set i (splice ((S.map encP).getD i []) 0 [.i a, .i b]) = (S.set i (a, b)).map encP := by
  rw [rowPz h, List.map_set]; rfl
theorem setP_at {S : List Pt} {i : Nat} {z : Pt} (h : i < S.length) : ((S.set i z).map encP).getD i [] = encP z := by
  rw [row_get (enc := encP) pz (by rw [List.length_set]; exact h)]
  simp [List.getD, h]
theorem z_wrap {q : Bx} (hq : bxQ q = true) {m : Int} (hm : 0 ≤ m ∧ m ≤ 1048576) : IntKind.i64.wrap ((extQ q).1 + 2 * m) = (extQ q).1 + 2 * m ∧ IntKind.i64.wrap ((extQ q).2 + 2 * m) = (extQ q).2 + 2 * m := by
  have h := bxB_iff.1 hq
  exact ⟨w64 (by simp only [extQ]; omega), w64 (by simp only [extQ]; omega)⟩
theorem pack_eq (p : Pn) (c : Int) : packD [.p p.l, .i c] = packR p c := by
  show packR (pnOf p.d) c = _
  rw [pnOf_d]
theorem arL_next (a : Ar) (v e : D) (k : Nat) (S : List Pt) (T : List (List Tp)) (h : a.e S k = 0) (hz : zOk (a.z S k) = true) : arL a v e (k + 1) S T = arL a v e k (S.set k (a.z S k)) (T.set k (a.t S k)) := by
  rw [arL, if_pos h, if_pos hz]
theorem Pn.fit_set {p : Pn} (h : p.fit) (S : List Pt) (T : List (List Tp)) (hS : S.length = p.S.length) : (Pn.mk p.g p.o p.B T S).fit := by
  obtain ⟨h1, h2, h3, h4⟩ := h
  exact ⟨h1, h2, h3, hS.trans h4⟩
theorem lpAr2_eq (v e _n : D) (p : Pn) (k : Nat) : lpAr2 [v, e, .i (p.g.C.length : Int), .i ((k : Int) - 2), .i p.o.md, .i p.o.ns, .i p.o.rs, .i p.o.m, .i p.o.rd, .l (p.T.map encTs), .l (p.S.map encP), .s p.g.nm, .b p.g.dr, .l p.g.N, .l p.g.E, .l p.g.C, .i p.o.md, .i p.o.ns, .i p.o.rs, .i p.o.m, .i p.o.rd, .l (p.B.map encQ)] = arL0 (arP p) v e k p.S p.T := by
  have hk : ((k : Int) - 2 + 2).toNat = k := by omega
  simp only [lpAr2, map_decQ, map_decP, map_decTs, hk]
  rfl
theorem lpAr2_eq2 (v e : D) (p : Pn) (S : List Pt) (T : List (List Tp)) (k : Nat) : lpAr2 [v, e, .i (p.g.C.length : Int), .i ((k : Int) - 2), .i p.o.md, .i p.o.ns, .i p.o.rs, .i p.o.m, .i p.o.rd, .l (T.map encTs), .l (S.map encP), .s p.g.nm, .b p.g.dr, .l p.g.N, .l p.g.E, .l p.g.C, .i p.o.md, .i p.o.ns, .i p.o.rs, .i p.o.m, .i p.o.rd, .l (p.B.map encQ)] = arL0 (arP p) v e k S T := lpAr2_eq v e (.i 0) ⟨p.g, p.o, p.B, T, S⟩ k
theorem pack_ok {p : Pn} {c : Int} (h : (arP p).e p.S c = 0) : packR p c = [.l (((arP p).t p.S c).map encT), .i (extQ (uni (best ((arP p).P p.S c) p.o.ns))).1, .i (extQ (uni (best ((arP p).P p.S c) p.o.ns))).2, .i 0] := by rw [packR, if_pos h]
theorem pack_no {p : Pn} {c : Int} (h : ¬ (arP p).e p.S c = 0) : packR p c = [.l [], .i 0, .i 0, .i 2] := by rw [packR, if_neg h]
theorem prAr2_mk (v e : D) (p : Pn) (S : List Pt) (T : List (List Tp)) (k : Nat) (hk : k ≤ p.g.C.length + 1) (hf : p.fit) (hS : S.length = p.S.length) (hT : T.length = p.g.C.length + 1) (ho : p.o.ok = true) :
    prAr2 [v, e, .i (p.g.C.length : Int), .i ((k : Int) - 2), .i p.o.md, .i p.o.ns, .i p.o.rs, .i p.o.m, .i p.o.rd, .l (T.map encTs), .l (S.map encP), .s p.g.nm, .b p.g.dr, .l p.g.N, .l p.g.E, .l p.g.C, .i p.o.md, .i p.o.ns, .i p.o.rs, .i p.o.m, .i p.o.rd, .l (p.B.map encQ)] :=
  ⟨v, e, ⟨p.g, p.o, p.B, T, S⟩, k, rfl, hk, Pn.fit_set hf _ _ hS, hT, ho⟩
set_option maxHeartbeats 400000 in
theorem loopM19_0 : LoopMeets Try.prog F (R L19_0.key) L19_0 lb19_0 := by
  refine loop_meets (pre := R) mixed (sgAt_all (P := Try.prog) (pre := R) (Φ := F) (l := sg19) (List.forall_mem_cons.2 ⟨Meets.at (pre := R) (Φ := F) m48, List.forall_mem_cons.2 ⟨Meets.at (pre := R) (Φ := F) m49, List.forall_mem_cons.2 ⟨Meets.at (pre := R) (Φ := F) m17, (fun _ h => nomatch h)⟩⟩⟩)) (loops_n 0 lk19_0 fun k hk => by omega) L19_0 (fun ρ => ((ρ.getD 3 default).int + 2).toNat) le19_0 fun ρ _ hq => ?_
  obtain ⟨v, e, p, k, rfl, hk, hf, hT, ho⟩ : prAr2 ρ := hq
  have hf' := hf
  obtain ⟨f1, f2, f3, f4⟩ := hf'
  have hom := (Od.ok_iff.1 ho).2.2.2.1
  cases k with
  | zero =>
    have h2 : (((0 : Nat) : Int) - 2) = -2 := rfl
    simp (disch := omega) only [rt19_0, VT.ok, X.ds, X.d, Op2.ev, List.getD_cons_zero, List.getD_cons_succ, D.int_i, D.bool_b, Bool.false_eq_true, ↓reduceIte, dle_f, h2]
    refine round_exit (by omega) ?_
    have := lpAr2_eq v e (.i 0) p 0
    rw [h2] at this
    rw [show F L19_0.key = lpAr2 from rfl, this]; rfl
  | succ k =>
    have h2 : (((k + 1 : Nat) : Int) - 2) = (k : Int) - 1 := by omega
    have hnext : IntKind.i64.wrap ((k : Int) - 1 - 1) = ((k : Nat) : Int) - 2 := by rw [w64 (by omega)]; omega
    have hpk : packD [.p [.s p.g.nm, .b p.g.dr, .l p.g.N, .l p.g.E, .l p.g.C, .i p.o.md, .i p.o.ns, .i p.o.rs, .i p.o.m, .i p.o.rd, .l (p.B.map encQ), .l (p.T.map encTs), .l (p.S.map encP)], .i ((k : Int) - 1)] = packR p ((k : Int) - 1) := pack_eq p _
    have hpre : ownCP [.p [.s p.g.nm, .b p.g.dr, .l p.g.N, .l p.g.E, .l p.g.C, .i p.o.md, .i p.o.ns, .i p.o.rs, .i p.o.m, .i p.o.rd, .l (p.B.map encQ), .l (p.T.map encTs), .l (p.S.map encP)], .i ((k : Int) - 1)] := ⟨p, _, rfl, hf⟩
    have hlp := lpAr2_eq v e (.i 0) p (k + 1)
    rw [h2] at hlp ⊢
    have hout : arL0 (arP p) v e (k + 1) p.S p.T = arL (arP p) v e k p.S p.T := rfl
    rw [hout] at hlp
    simp (disch := omega) only [rt19_0, VT.ok, Nd.holds, X.outs, X.ds, X.d, Op1.ev, Op2.ev, List.cons_append, List.nil_append, List.getD_cons_zero, List.getD_cons_succ, D.int_i, D.bool_b, D.lst_l, Int.toNat_natCast, List.length_map, implies_true, true_and, F17, R17, F49, R49, ↓reduceIte, dle_t, dlt_t, w64', hpk]
    refine ⟨fun _ => hpre, ?_⟩
    by_cases hc : (arP p).e p.S ((k : Int) - 1) = 0
    · rw [pack_ok hc]
      simp only [takeD_zero, takeD_cons, List.cons_append, List.nil_append, List.getD_cons_zero, List.getD_cons_succ, D.int_i, Bool.false_eq_true, if_false, takeD1_0, show (!((0 : Int) == 0)) = false from rfl]
      cases k with
      | zero =>
        have h3 : (((0 : Nat) : Int) - 1) = -1 := rfl
        rw [h3] at hc hlp hnext ⊢
        simp (disch := omega) only [↓reduceIte, dlt_t, updTs]
        rw [show (-1 - 1 : Int) = ((0 : Nat) : Int) - 2 from rfl]
        refine round_step [v, e, .i (p.g.C.length : Int), .i (((0 : Nat) : Int) - 2), .i p.o.md, .i p.o.ns, .i p.o.rs, .i p.o.m, .i p.o.rd, .l ((p.T.set p.g.C.length ((arP p).t p.S (-1))).map encTs), .l ((p.S).map encP), .s p.g.nm, .b p.g.dr, .l p.g.N, .l p.g.E, .l p.g.C, .i p.o.md, .i p.o.ns, .i p.o.rs, .i p.o.m, .i p.o.rd, .l (p.B.map encQ)] rfl (prAr2_mk v e p p.S (p.T.set p.g.C.length ((arP p).t p.S (-1))) 0 (by omega) hf rfl (by rw [List.length_set]; exact hT) ho) ?_ ?_
        · show (((0 : Nat) : Int) - 2 + 2).toNat < ((-1 : Int) + 2).toNat
          decide
        · rw [show F L19_0.key = lpAr2 from rfl, lpAr2_eq2, hlp, arL, if_pos hc]; rfl
      | succ k =>
        have h3 : (((k + 1 : Nat) : Int) - 1) = (k : Int) := by omega
        rw [h3] at hc hlp hnext ⊢
        have hkC : k < p.g.C.length := by omega
        have hq := uni_ok (best ((arP p).P p.S k) p.o.ns)
        obtain ⟨w1, w2⟩ := z_wrap hq hom
        have hz : (arP p).z p.S k = ((extQ (uni (best ((arP p).P p.S k) p.o.ns))).1 + 2 * p.o.m, (extQ (uni (best ((arP p).P p.S k) p.o.ns))).2 + 2 * p.o.m) := rfl
        simp (disch := omega) only [List.getD_cons_zero, List.getD_cons_succ, D.int_i, D.bool_b, Int.toNat_natCast, List.length_map, Bool.false_eq_true, implies_true, true_and, ↓reduceIte, dle_t, dlt_t, dlt_f, List.length_map, updTs, updP, w1, w2, List.length_set, setP_at, encP, fn17_eq, Int.toNat_natCast]
        have hzk : bxB 0 0 ((extQ (uni (best ((arP p).P p.S k) p.o.ns))).1 + 2 * p.o.m) ((extQ (uni (best ((arP p).P p.S k) p.o.ns))).2 + 2 * p.o.m) = zOk ((arP p).z p.S k) := rfl
        rw [hzk, ← hz]
        cases hzo : zOk ((arP p).z p.S k)
        · simp only [Bool.not_false, if_true]
          refine round_exit (by omega) ?_
          rw [show F L19_0.key = lpAr2 from rfl, hlp]
          rw [arL, if_pos hc, if_neg (by rw [hzo]; decide)]
        · simp only [Bool.not_true, Bool.false_eq_true, if_false]
          rw [show ((k : Int) - 1) = ((k + 1 : Nat) : Int) - 2 by omega]
          refine round_step [v, e, .i (p.g.C.length : Int), .i (((k + 1 : Nat) : Int) - 2), .i p.o.md, .i p.o.ns, .i p.o.rs, .i p.o.m, .i p.o.rd, .l ((p.T.set k ((arP p).t p.S k)).map encTs), .l ((p.S.set k ((arP p).z p.S k)).map encP), .s p.g.nm, .b p.g.dr, .l p.g.N, .l p.g.E, .l p.g.C, .i p.o.md, .i p.o.ns, .i p.o.rs, .i p.o.m, .i p.o.rd, .l (p.B.map encQ)] rfl (prAr2_mk v e p (p.S.set k ((arP p).z p.S k)) (p.T.set k ((arP p).t p.S k)) (k + 1) (by omega) hf (List.length_set ..) (by rw [List.length_set]; exact hT) ho) ?_ ?_
          · show (((k + 1 : Nat) : Int) - 2 + 2).toNat < ((k : Int) + 2).toNat
            omega
          · rw [show F L19_0.key = lpAr2 from rfl, lpAr2_eq2, hlp, arL_next _ _ _ _ _ _ hc hzo]; rfl
    · rw [pack_no hc]
      simp only [takeD_zero, takeD_cons, List.cons_append, List.nil_append, List.getD_cons_zero, List.getD_cons_succ, D.int_i, if_true, takeD1_0, show (!((2 : Int) == 0)) = true from rfl, if_true]
      refine round_exit (by omega) ?_
      rw [show F L19_0.key = lpAr2 from rfl, hlp]
      cases k with
      | zero => rw [arL, if_neg (show ¬ (arP p).e p.S (-1) = 0 from hc)]; rfl
      | succ k =>
        have h3 : (((k + 1 : Nat) : Int) - 1) = (k : Int) := by omega
        rw [h3] at hc ⊢
        rw [arL, if_neg hc]
theorem sizesD_eq (g : Gd) (o : Od) (B : List Bx) : sizesD [.s g.nm, .b g.dr, .l g.N, .l g.E, .l g.C, .i o.md, .i o.ns, .i o.rs, .i o.m, .i o.rd, .l (B.map encQ)] = [.l ((sizesR g o B).1.map encQ), .i (sizesR g o B).2] := by
  show [D.l ((sizesR g o ((B.map encQ).map decQ)).1.map encQ), .i (sizesR g o ((B.map encQ).map decQ)).2] = _
  rw [map_decQ]
theorem inE_ok {g : Gd} {o : Od} {B : List Bx} (h : inE g o B = 0) : validE g = 0 ∧ o.ok = true ∧ B.length = g.N.length ∧ anyN (badB g.N B) B.length = false ∧ anyN (ovN B) B.length = false := by
  unfold inE at h
  split at h
  · rename_i h1
    split at h
    · rename_i h2
      split at h
      · rename_i h3
        split at h
        · cases h
        · rename_i h4
          split at h
          · cases h
          · rename_i h5
            exact ⟨h1, h2, h3, Bool.eq_false_iff.2 h4, Bool.eq_false_iff.2 h5⟩
      · cases h
    · cases h
  · rename_i h1; exact absurd h h1
theorem planD_eq (g : Gd) (o : Od) (B : List Bx) : planD [.s g.nm, .b g.dr, .l g.N, .l g.E, .l g.C, .i o.md, .i o.ns, .i o.rs, .i o.m, .i o.rd, .l (B.map encQ)] =
    if inE g o B = 0 then (match (arOf g o B).all with
      | some (S, T) => [Pn.d ⟨g, o, B, T, S⟩, .i 0]
      | none => [.p [], .i 2]) else [.p [], .i (inE g o B)] := by
  obtain ⟨nm, dr, N, E, C⟩ := g
  obtain ⟨md, ns, rs, m, rd⟩ := o
  simp only [planD, map_decQ]
  rfl
theorem rep_T (n : Nat) : List.replicate n [D.l []] = (List.replicate n ([] : List Tp)).map encTs := by
  rw [List.map_replicate]; rfl
theorem rep_S (n : Nat) : List.replicate n [D.i 0, .i 0] = (List.replicate n pz).map encP := by
  rw [List.map_replicate]; rfl
theorem m19 : Meets Try.prog 19 S19 (R 19) (F 19) := by
  refine meets_of_vt (pre := R) (Φ := F) mixed (sgAt_all (P := Try.prog) (pre := R) (Φ := F) (l := sg19) (List.forall_mem_cons.2 ⟨Meets.at (pre := R) (Φ := F) m48, List.forall_mem_cons.2 ⟨Meets.at (pre := R) (Φ := F) m49, List.forall_mem_cons.2 ⟨Meets.at (pre := R) (Φ := F) m17, (fun _ h => nomatch h)⟩⟩⟩)) Try.func19 b19 n19 (loops_n 1 k19 fun k hk => match k, hk with | 0, _ => loop_this lf19_0 loopM19_0) e19 fun ds hf _ => ?_
  obtain ⟨g, o, B, ds', rfl, h0, hm, _⟩ := fitsGO hf.flat
  obtain rfl := fits0 h0
  simp only [vt19, VT.ok, Nd.holds, X.outs, X.ds, X.d, Op1.ev, Op2.ev, takeD_zero, takeD_cons, List.cons_append, List.nil_append, List.getD_cons_zero, List.getD_cons_succ, D.int_i, D.bool_b, D.lst_l, Int.toNat_natCast, implies_true, true_and, F48, R48, F11900, R11900, F19, inD_eq, planD_eq]
  by_cases h : inE g o B = 0
  · obtain ⟨h1, h2, h3, _⟩ := inE_ok h
    obtain ⟨v1, v2⟩ := valid_len h1
    have hb : (!(inE g o B == 0)) = false := by simp [h]
    have e1 : ((g.C.length : Int) + 1).toNat = g.C.length + 1 := by omega
    have hc1 : ((g.C.length : Int) - 1) = ((g.C.length + 1 : Nat) : Int) - 2 := by omega
    simp (disch := omega) only [h, ↓reduceIte, dle_t, beq_t, w64', suc_nat, rep_T, rep_S]
    have hpre := prAr2_mk (.p []) (.i 0) ⟨g, o, B, (arOf g o B).T0, (arOf g o B).S0⟩ (arOf g o B).S0 (arOf g o B).T0 (g.C.length + 1) (Nat.le_refl _) ⟨v1, v2, h3, by simp [Ar.S0, arOf]⟩ rfl (by simp [Ar.T0, arOf]) h2
    have hlp := lpAr2_eq2 (.p []) (.i 0) ⟨g, o, B, (arOf g o B).T0, (arOf g o B).S0⟩ (arOf g o B).S0 (arOf g o B).T0 (g.C.length + 1)
    rw [← hc1] at hpre hlp
    have hlp' : lpAr2 [.p [], .i 0, .i (g.C.length : Int), .i ((g.C.length : Int) - 1), .i o.md, .i o.ns, .i o.rs, .i o.m, .i o.rd, .l ((List.replicate (g.C.length + 1) ([] : List Tp)).map encTs), .l ((List.replicate g.C.length pz).map encP), .s g.nm, .b g.dr, .l g.N, .l g.E, .l g.C, .i o.md, .i o.ns, .i o.rs, .i o.m, .i o.rd, .l (B.map encQ)] = arL (arOf g o B) (.p []) (.i 0) g.C.length (arOf g o B).S0 (arOf g o B).T0 := hlp
    rw [hlp']
    refine ⟨fun _ => trivial, fun _ => trivial, fun _ => trivial, fun _ => hpre, ?_⟩
    rcases arL_run (arOf g o B) (.p []) (.i 0) g.C.length (arOf g o B).S0 (arOf g o B).T0 with ⟨S', T', k1, k2⟩ | ⟨k1, c, x, y, k2⟩
    · have k1' : (arOf g o B).all = some (S', T') := k1
      rw [k2, k1']
      simp only [takeD_zero, takeD_cons, List.getD_cons_zero, List.getD_cons_succ, D.int_i, Bool.false_eq_true, if_false, show ((1 : Int) == 0) = false from rfl]
      rfl
    · have k1' : (arOf g o B).all = none := k1
      rw [k2, k1']
      simp only [takeD_zero, takeD_cons, List.getD_cons_zero, List.getD_cons_succ, D.int_i, if_true, show ((0 : Int) == 0) = true from rfl]
  · have hb : (!(inE g o B == 0)) = true := by simp [h]
    rw [if_pos hb, if_neg h]
theorem loopM12_0 : LoopMeets Try.prog F (R L12_0.key) L12_0 lb12_0 := by
  refine loop_meets (pre := R) mixed (sgAt_all (P := Try.prog) (pre := R) (Φ := F) (l := sg12) (List.forall_mem_cons.2 ⟨Meets.at (pre := R) (Φ := F) m19, (fun _ h => nomatch h)⟩)) (loops_n 0 lk12_0 fun k hk => by omega) L12_0 (fun ρ => ((ρ.getD 1 default).int - (ρ.getD 2 default).int).toNat) le12_0 fun ρ _ hq => ?_
  obtain ⟨S, j, acc, rfl, hj, h16, hacc⟩ : prSz ρ := hq
  by_cases hlt : j < S.length
  · have hd : S.drop j = S.getD j pz :: S.drop (j + 1) := drop_at pz S hlt
    simp (disch := omega) only [rt12_0, VT.ok, Nd.holds, X.ds, X.d, Op1.ev, Op2.ev, List.getD_cons_zero, List.getD_cons_succ, D.int_i, D.bool_b, D.lst_l, Int.toNat_natCast, List.length_map, implies_true, true_and, ↓reduceIte, dle_t, dlt_t, w64', rowPz, encP, snoc_le]
    refine round_next ⟨⟨S, j + 1, _, rfl, by omega, h16, ?_⟩, ?_, ?_⟩
    · rw [List.length_append]; simp only [List.length_singleton]; omega
    · show ((S.length : Int) - ((j + 1 : Nat) : Int)).toNat < ((S.length : Int) - (j : Int)).toNat
      omega
    · show lpSz [.l (S.map encP), .i (S.length : Int), .i ((j + 1 : Nat) : Int), .l (acc ++ [encZ (S.getD j pz)])] = lpSz [.l (S.map encP), .i (S.length : Int), .i (j : Int), .l acc]
      simp only [lpSz, Int.toNat_natCast, map_decP, List.length_map, hd, List.map_cons, List.append_assoc, List.singleton_append]
  · have hj : j = S.length := by omega
    subst hj
    simp (disch := omega) only [rt12_0, VT.ok, X.ds, X.d, Op2.ev, List.getD_cons_zero, List.getD_cons_succ, D.int_i, D.bool_b, Bool.false_eq_true, ↓reduceIte, dlt_f]
    refine round_exit (by omega) ?_
    show lpSz [.l (S.map encP), .i (S.length : Int), .i (S.length : Int), .l acc] = _
    simp only [lpSz, Int.toNat_natCast, map_decP, List.length_map, List.drop_length, List.map_nil, List.append_nil]
theorem run_len (a : Ar) : ∀ (k : Nat) (S S' : List Pt) (T T' : List (List Tp)), a.run k S T = some (S', T') → S'.length = S.length ∧ T'.length = T.length
  | 0, S, S', T, T', h => by
    unfold Ar.run at h
    split at h
    · simp only [Option.some.injEq, Prod.mk.injEq] at h
      obtain ⟨rfl, rfl⟩ := h
      exact ⟨rfl, List.length_set ..⟩
    · cases h
  | k + 1, S, S', T, T', h => by
    unfold Ar.run at h
    split at h
    · split at h
      · obtain ⟨h1, h2⟩ := run_len a k _ _ _ _ h
        exact ⟨h1.trans (List.length_set ..), h2.trans (List.length_set ..)⟩
      · cases h
    · cases h
theorem all_len {g : Gd} {o : Od} {B : List Bx} {S : List Pt} {T : List (List Tp)} (h : (arOf g o B).all = some (S, T)) : S.length = g.C.length ∧ T.length = g.C.length + 1 := by
  obtain ⟨h1, h2⟩ := run_len _ _ _ _ _ _ h
  rw [h1, h2]
  simp [Ar.S0, Ar.T0, arOf]
theorem szB_map (S : List Pt) : S.map encZ = (S.map szB).map encQ := by rw [List.map_map]; rfl
theorem m12 : Meets Try.prog 12 S12 (R 12) (F 12) := by
  refine meets_of_vt (pre := R) (Φ := F) mixed (sgAt_all (P := Try.prog) (pre := R) (Φ := F) (l := sg12) (List.forall_mem_cons.2 ⟨Meets.at (pre := R) (Φ := F) m19, (fun _ h => nomatch h)⟩)) Try.func12 b12 n12 (loops_n 1 k12 fun k hk => match k, hk with | 0, _ => loop_this lf12_0 loopM12_0) e12 fun ds hf _ => ?_
  obtain ⟨g, o, B, ds', rfl, h0, hm, _⟩ := fitsGO hf.flat
  obtain rfl := fits0 h0
  simp only [vt12, VT.ok, Nd.holds, X.outs, X.ds, X.d, Op1.ev, Op2.ev, List.cons_append, List.nil_append, List.getD_cons_zero, List.getD_cons_succ, D.int_i, D.bool_b, implies_true, true_and, F19, R19, F11200, R11200, F12, planD_eq, sizesD_eq]
  by_cases h : inE g o B = 0
  · obtain ⟨h1, h2, h3, _⟩ := inE_ok h
    obtain ⟨v1, v2⟩ := valid_len h1
    rw [if_pos h]
    cases ha : (arOf g o B).all with
    | none =>
      have hr : sizesR g o B = ([], 2) := by rw [sizesR, if_pos h, ha]
      rw [hr]; rfl
    | some r =>
      obtain ⟨S, T⟩ := r
      obtain ⟨l1, l2⟩ := all_len ha
      have hr : sizesR g o B = (S.map szB, 0) := by rw [sizesR, if_pos h, ha]
      have hpre : prSz [.l (S.map encP), .i (S.length : Int), .i 0, .l []] := ⟨S, 0, [], rfl, by omega, by omega, by simp⟩
      have hl : lpSz [.l (S.map encP), .i (S.length : Int), .i 0, .l []] = [.i 0, .i (S.length : Int), .l (S.map encZ)] := by
        simp only [lpSz, map_decP, List.length_map, Int.toNat_zero, List.drop_zero, List.nil_append]
      rw [hr]
      simp only [takeD_zero, takeD_cons, List.cons_append, List.nil_append, List.getD_cons_zero, List.getD_cons_succ, D.int_i, D.lst_l, List.length_map, Bool.false_eq_true, if_false, and_true, Pn.d, D.ptd_p, Pn.l, List.length_cons, List.length_nil, show (!((0 : Int) == 0)) = false from rfl, hl, szB_map]
      exact ⟨fun _ => rfl, fun _ => hpre⟩
  · have hb : (!(inE g o B == 0)) = true := by simp [h]
    have hr : sizesR g o B = ([], inE g o B) := by rw [sizesR, if_neg h]
    rw [if_neg h, hr]
    simp only [takeD_zero, takeD_cons, List.cons_append, List.nil_append, List.getD_cons_zero, List.getD_cons_succ, D.int_i, if_true, hb, if_true]
    rfl
end Go.Proofs.Ytindllmeeckfcaa.rv
namespace Go.Proofs.Ytindllmeeckfcaa.rv
set_option maxRecDepth 10000
open Go.RV
theorem shEq (q : Bx) (x y : Int) (h : smQ q) (hx : sm x) (hy : sm y) : fn21 [.i q.1, .i q.2.1, .i q.2.2.1, .i q.2.2.2, .i x, .i y] = [.i (shQ q x y).1, .i (shQ q x y).2.1, .i (shQ q x y).2.2.1, .i (shQ q x y).2.2.2] := fn21_eq q x y h hx hy
theorem putN_len (B : List Bx) (x y : Int) : ∀ (l : List Nat) (M : List Bx), (putN B l x y M).length = M.length
  | [], M => rfl
  | v :: l, M => by
    show (putN B l x y (M.set v _)).length = _
    rw [putN_len B x y l, List.length_set]
theorem loopMp10_0_1 : LoopMeets Try.prog F (R Lp10_0_1.key) Lp10_0_1 lbp10_0_1 := by
  refine loop_meets (pre := R) mixed (sgAt_all (P := Try.prog) (pre := R) (Φ := F) (l := sgp10_0) (List.forall_mem_cons.2 ⟨Meets.at (pre := R) (Φ := F) m21, List.forall_mem_cons.2 ⟨Meets.at (pre := R) (Φ := F) m22, List.forall_mem_cons.2 ⟨Meets.at (pre := R) (Φ := F) m23, (fun _ h => nomatch h)⟩⟩⟩)) (loops_n 0 lkp10_0_1 fun k hk => by omega) Lp10_0_1 (fun ρ => ((ρ.getD 1 default).int - (ρ.getD 2 default).int).toNat) lep10_0_1 fun ρ _ hq => ?_
  obtain ⟨l, j, B, M, q, r, rfl, hj, h64, hl, hM, hB, ⟨hq1, hq2⟩, hr⟩ : prPn ρ := hq
  have hr' := hr
  unfold smQ at hr'
  have hs1 : sm (q.1 - r.1) := by unfold sm at *; omega
  have hs2 : sm (q.2.1 - r.2.1) := by unfold sm at *; omega
  have w1 : IntKind.i64.wrap (q.1 - r.1) = q.1 - r.1 := by unfold sm at hs1; exact w64 (by omega)
  have w2 : IntKind.i64.wrap (q.2.1 - r.2.1) = q.2.1 - r.2.1 := by unfold sm at hs2; exact w64 (by omega)
  by_cases hlt : j < l.length
  · have hv : l.getD j 0 < B.length := hl _ (getD_memN hlt)
    have hd : l.drop j = l.getD j 0 :: l.drop (j + 1) := drop_at 0 l hlt
    have hb := shEq (B.getD (l.getD j 0) z4) _ _ (hB _ (getD_mem z4 hv)) hs1 hs2
    simp (disch := omega) only [rtp10_0_1, VT.ok, Nd.holds, X.outs, X.ds, X.d, Op1.ev, Op2.ev, takeD_zero, takeD_cons, List.cons_append, List.nil_append, List.getD_cons_zero, List.getD_cons_succ, D.int_i, D.bool_b, D.lst_l, Int.toNat_natCast, List.length_map, implies_true, true_and, F21, R21, ↓reduceIte, dle_t, dlt_t, w64', rowNn, encN, rowQz, encQ, w1, w2, hb, List.length_map, splQ0, setQ]
    refine round_next ⟨⟨l, j + 1, B, M.set (l.getD j 0) (shQ (B.getD (l.getD j 0) z4) (q.1 - r.1) (q.2.1 - r.2.1)), q, r, rfl, by omega, h64, hl, (List.length_set ..).trans hM, hB, ⟨hq1, hq2⟩, hr⟩, ?_, ?_⟩
    · show ((l.length : Int) - ((j + 1 : Nat) : Int)).toNat < ((l.length : Int) - (j : Int)).toNat
      omega
    · show lpPn [.l (l.map encN), .i (l.length : Int), .i ((j + 1 : Nat) : Int), .l (B.map encQ), .l ((M.set (l.getD j 0) (shQ (B.getD (l.getD j 0) z4) (q.1 - r.1) (q.2.1 - r.2.1))).map encQ), .i q.1, .i q.2.1, .i q.2.2.1, .i q.2.2.2, .i r.1, .i r.2.1, .i r.2.2.1, .i r.2.2.2] = lpPn [.l (l.map encN), .i (l.length : Int), .i (j : Int), .l (B.map encQ), .l (M.map encQ), .i q.1, .i q.2.1, .i q.2.2.1, .i q.2.2.2, .i r.1, .i r.2.1, .i r.2.2.1, .i r.2.2.2]
      simp only [lpPn, Int.toNat_natCast, map_decN, map_decQ, List.length_map, hd, putN, List.foldl_cons]
  · have hj : j = l.length := by omega
    subst hj
    simp (disch := omega) only [rtp10_0_1, VT.ok, X.ds, X.d, Op2.ev, List.getD_cons_zero, List.getD_cons_succ, D.int_i, D.bool_b, Bool.false_eq_true, ↓reduceIte, dlt_f]
    refine round_exit (by omega) ?_
    show lpPn [.l (l.map encN), .i (l.length : Int), .i (l.length : Int), .l (B.map encQ), .l (M.map encQ), .i q.1, .i q.2.1, .i q.2.2.1, .i q.2.2.2, .i r.1, .i r.2.1, .i r.2.2.1, .i r.2.2.2] = _
    simp only [lpPn, Int.toNat_natCast, map_decN, map_decQ, List.length_map, List.drop_length, putN, List.foldl_nil]
theorem rowTz {l : List Tp} {i : Nat} (h : i < l.length) : (l.map encT).getD i [] = encT (l.getD i (0, z4)) := row_get (0, z4) h
theorem putTs_cons (B : List Bx) (own : List Nat) (x y : Int) (t : Tp) (l : List Tp) (s : Pl) : putTs B own x y (t :: l) s = putTs B own x y l (putT B own x y s t) := rfl
theorem lpPt_eq (c x y : Int) (l : List Tp) (_n : D) (j : Nat) (p : Pn) (M K : List Bx) : lpPt [.i c, .i x, .i y, .l (l.map encT), .i (l.length : Int), .i (j : Int), .l (p.B.map encQ), p.d, .l (M.map encQ), .l (K.map encQ)] = [.i 0, .i (l.length : Int), .l ((putTs p.B (ownL p.g.N c) x y (l.drop j) (M, K)).1.map encQ), .l ((putTs p.B (ownL p.g.N c) x y (l.drop j) (M, K)).2.map encQ)] := by
  have e : cL p.d.ptd 2 = p.g.N := rfl
  simp only [lpPt, map_decQ, map_decT, Int.toNat_natCast, List.length_map, e]
set_option maxHeartbeats 400000 in
theorem loopMp10_0_0 : LoopMeets Try.prog F (R Lp10_0_0.key) Lp10_0_0 lbp10_0_0 := by
  refine loop_meets (pre := R) mixed (sgAt_all (P := Try.prog) (pre := R) (Φ := F) (l := sgp10_0) (List.forall_mem_cons.2 ⟨Meets.at (pre := R) (Φ := F) m21, List.forall_mem_cons.2 ⟨Meets.at (pre := R) (Φ := F) m22, List.forall_mem_cons.2 ⟨Meets.at (pre := R) (Φ := F) m23, (fun _ h => nomatch h)⟩⟩⟩)) (loops_n 1 lkp10_0_0 fun k hk => match k, hk with | 0, _ => by rw [lip10_0_0_0]; exact loop_this lfp10_0_1 loopMp10_0_1) Lp10_0_0 (fun ρ => ((ρ.getD 4 default).int - (ρ.getD 5 default).int).toNat) lep10_0_0 fun ρ _ hq => ?_
  obtain ⟨c, x, y, l, j, p, M, K, rfl, hj, h64, hsm, hx, hy, hl, hM, hK⟩ : prPt ρ := hq
  obtain ⟨⟨f1, f2, f3, f4⟩, hB⟩ := hsm
  have hlp := lpPt_eq c x y l (.i 0) j p M K
  by_cases hlt : j < l.length
  · have hd : l.drop j = l.getD j (0, z4) :: l.drop (j + 1) := drop_at (0, z4) l hlt
    obtain ⟨ht1, ht2, ht3⟩ := hl _ (getD_mem (0, z4) hlt)
    have hsx : sm x := by unfold sm; omega
    have hsy : sm y := by unfold sm; omega
    have hb := shEq (l.getD j (0, z4)).2 x y ht1 hsx hsy
    have hown : ownCP [p.d, .i c] := ⟨p, c, rfl, f1, f2, f3, f4⟩
    have hownl : (ownL p.g.N c).length ≤ p.g.N.length := pick_len _ _
    have hblk : blkCP [p.d, .l ((ownL p.g.N c).map encN)] := ⟨p, _, rfl, by omega, own_lt (by omega)⟩
    have hbb : smQ (blkB p.B (ownL p.g.N c)) := smQ_of (uni_ok _)
    rw [hd, putTs_cons] at hlp
    generalize htt : l.getD j (0, z4) = t at *
    obtain ⟨k, q⟩ := t
    have ht1' : smQ q := ht1
    unfold smQ at ht1'
    simp (disch := omega) only [rtp10_0_0, VT.ok, Nd.holds, X.outs, X.ds, X.d, Op1.ev, Op2.ev, takeD_zero, takeD_cons, List.cons_append, List.nil_append, List.getD_cons_zero, List.getD_cons_succ, D.int_i, D.bool_b, D.lst_l, Int.toNat_natCast, List.length_map, implies_true, true_and, takeD1_0, F21, R21, F22, R22, F23, R23, F12050, R12050, ↓reduceIte, dle_t, dlt_t, w64', rowTz, htt, encT, encQ, hb]
    by_cases hk : 0 ≤ k
    · have hkc : k.toNat < K.length := by have : k < (p.g.C.length : Int) := ht3; omega
      have hkc2 : k < (K.length : Int) := by have : k < (p.g.C.length : Int) := ht3; omega
      rw [if_pos (decide_eq_true hk)]
      simp (disch := omega) only [rowQz, encQ, splQ0, setQ]
      refine round_step [.i c, .i x, .i y, .l (l.map encT), .i (l.length : Int), .i ((j + 1 : Nat) : Int), .l (p.B.map encQ), p.d, .l (M.map encQ), .l ((K.set k.toNat (shQ q x y)).map encQ)] rfl ⟨c, x, y, l, j + 1, p, M, _, rfl, by omega, h64, ⟨⟨f1, f2, f3, f4⟩, hB⟩, hx, hy, hl, hM, (List.length_set ..).trans hK⟩ ?_ ?_
      · show ((l.length : Int) - ((j + 1 : Nat) : Int)).toNat < ((l.length : Int) - (j : Int)).toNat
        omega
      · have e1 := lpPt_eq c x y l (.i 0) (j + 1) p M (K.set k.toNat (shQ q x y))
        have e2 : putT p.B (ownL p.g.N c) x y (M, K) (k, q) = (M, K.set k.toNat (shQ q x y)) := by rw [putT, if_pos hk]
        rw [e2] at hlp
        rw [show F Lp10_0_0.key = lpPt from rfl]
        exact e1.trans hlp.symm
    · rw [if_neg (by rw [decide_eq_false hk]; decide)]
      have hin : lpPn [.l ((ownL p.g.N c).map encN), .i (((ownL p.g.N c).map encN).length : Int), .i 0, .l (p.B.map encQ), .l (M.map encQ), .i (shQ q x y).1, .i (shQ q x y).2.1, .i (shQ q x y).2.2.1, .i (shQ q x y).2.2.2, .i (blkB p.B (ownL p.g.N c)).1, .i (blkB p.B (ownL p.g.N c)).2.1, .i (blkB p.B (ownL p.g.N c)).2.2.1, .i (blkB p.B (ownL p.g.N c)).2.2.2] = [.i 0, .i (((ownL p.g.N c).map encN).length : Int), .l ((putN p.B (ownL p.g.N c) ((shQ q x y).1 - (blkB p.B (ownL p.g.N c)).1) ((shQ q x y).2.1 - (blkB p.B (ownL p.g.N c)).2.1) M).map encQ)] := by
        simp only [lpPn, map_decN, map_decQ, Int.toNat_zero, List.drop_zero]
      have hpn : prPn [.l ((ownL p.g.N c).map encN), .i (((ownL p.g.N c).map encN).length : Int), .i 0, .l (p.B.map encQ), .l (M.map encQ), .i (shQ q x y).1, .i (shQ q x y).2.1, .i (shQ q x y).2.2.1, .i (shQ q x y).2.2.2, .i (blkB p.B (ownL p.g.N c)).1, .i (blkB p.B (ownL p.g.N c)).2.1, .i (blkB p.B (ownL p.g.N c)).2.2.1, .i (blkB p.B (ownL p.g.N c)).2.2.2] :=
        ⟨ownL p.g.N c, 0, p.B, M, shQ q x y, blkB p.B (ownL p.g.N c), by rw [List.length_map]; rfl, by omega, by omega, own_lt (by omega), by omega, hB, by unfold shQ; simp only; omega, hbb⟩
      rw [List.length_map] at hin hpn
      simp only [takeD_zero, takeD_cons, List.cons_append, List.nil_append, List.getD_cons_zero, List.getD_cons_succ, D.lst_l, List.length_map, ownC_eq, blkC_eq, List.length_map, hin]
      refine ⟨fun _ => hown, fun _ => hblk, fun _ => hpn, ?_⟩
      refine round_step [.i c, .i x, .i y, .l (l.map encT), .i (l.length : Int), .i ((j + 1 : Nat) : Int), .l (p.B.map encQ), p.d, .l ((putN p.B (ownL p.g.N c) ((shQ q x y).1 - (blkB p.B (ownL p.g.N c)).1) ((shQ q x y).2.1 - (blkB p.B (ownL p.g.N c)).2.1) M).map encQ), .l (K.map encQ)] rfl ⟨c, x, y, l, j + 1, p, _, K, rfl, by omega, h64, ⟨⟨f1, f2, f3, f4⟩, hB⟩, hx, hy, hl, (putN_len ..).trans hM, hK⟩ ?_ ?_
      · show ((l.length : Int) - ((j + 1 : Nat) : Int)).toNat < ((l.length : Int) - (j : Int)).toNat
        omega
      · have e1 := lpPt_eq c x y l (.i 0) (j + 1) p (putN p.B (ownL p.g.N c) ((shQ q x y).1 - (blkB p.B (ownL p.g.N c)).1) ((shQ q x y).2.1 - (blkB p.B (ownL p.g.N c)).2.1) M) K
        have e2 : putT p.B (ownL p.g.N c) x y (M, K) (k, q) = (putN p.B (ownL p.g.N c) ((shQ q x y).1 - (blkB p.B (ownL p.g.N c)).1) ((shQ q x y).2.1 - (blkB p.B (ownL p.g.N c)).2.1) M, K) := by rw [putT, if_neg hk]
        rw [e2] at hlp
        rw [show F Lp10_0_0.key = lpPt from rfl]
        exact e1.trans hlp.symm
  · have hj : j = l.length := by omega
    subst hj
    simp (disch := omega) only [rtp10_0_0, VT.ok, X.ds, X.d, Op2.ev, List.getD_cons_zero, List.getD_cons_succ, D.int_i, D.bool_b, Bool.false_eq_true, ↓reduceIte, dlt_f]
    refine round_exit (by omega) ?_
    rw [show F Lp10_0_0.key = lpPt from rfl]
    refine hlp.trans ?_
    rw [List.drop_length]
    rfl
theorem pcPu_eq (c x y : Int) (l : List Tp) (p : Pn) (M K : List Bx) : pcPu [.l (p.B.map encQ), p.d, .l (M.map encQ), .l (K.map encQ), .i c, .l (l.map encT), .i x, .i y] = [.i 0, .l ((putTs p.B (ownL p.g.N c) x y l (M, K)).1.map encQ), .l ((putTs p.B (ownL p.g.N c) x y l (M, K)).2.map encQ)] := by
  have e : cL p.d.ptd 2 = p.g.N := rfl
  simp only [pcPu, map_decQ, map_decT, e]
theorem mp10_0 : ProcMeets Try.prog 20 Sp10_20 P10_0 4 (R P10_0.key) (F P10_0.key) := by
  refine proc_meets mixed (sgAt_all (P := Try.prog) (pre := R) (Φ := F) (l := sgp10_0) (List.forall_mem_cons.2 ⟨Meets.at (pre := R) (Φ := F) m21, List.forall_mem_cons.2 ⟨Meets.at (pre := R) (Φ := F) m22, List.forall_mem_cons.2 ⟨Meets.at (pre := R) (Φ := F) m23, (fun _ h => nomatch h)⟩⟩⟩)) Try.func20 bp10_0 np10_0 (loops_n 2 kp10_0 fun k hk => match k, hk with | 0, _ => loop_this lfp10_0_0 loopMp10_0_0 | 1, _ => loop_this lfp10_0_1 loopMp10_0_1) pe10_0 pp10_0 pl10_0 (by decide) fun ρ _ hq => ?_
  obtain ⟨c, x, y, l, p, M, K, rfl, h64, hsm, hx, hy, hl, hM, hK⟩ : prPu ρ := hq
  have hpre : prPt [.i c, .i x, .i y, .l (l.map encT), .i (l.length : Int), .i 0, .l (p.B.map encQ), p.d, .l (M.map encQ), .l (K.map encQ)] := ⟨c, x, y, l, 0, p, M, K, rfl, by omega, h64, hsm, hx, hy, hl, hM, hK⟩
  have hlp := lpPt_eq c x y l (.i 0) 0 p M K
  rw [List.drop_zero] at hlp
  have hlp' : lpPt [.i c, .i x, .i y, .l (l.map encT), .i (l.length : Int), .i 0, .l (p.B.map encQ), p.d, .l (M.map encQ), .l (K.map encQ)] = _ := hlp
  simp only [pv10_0, VT.ok, Nd.holds, X.outs, X.ds, X.d, Op1.ev, takeD_zero, takeD_cons, List.cons_append, List.nil_append, List.getD_cons_zero, List.getD_cons_succ, D.bool_b, D.lst_l, List.length_map, F12051, R12051, hlp']
  exact ⟨fun _ => hpre, (pcPu_eq c x y l p M K).symm⟩
end Go.Proofs.Ytindllmeeckfcaa.rv
namespace Go.Proofs.Ytindllmeeckfcaa.rv
set_option maxRecDepth 10000
open Go.RV
theorem valid_parts {g : Gd} (h : validE g = 0) : (g.N.length ≤ 64 ∧ g.E.length ≤ 256 ∧ g.C.length ≤ 16) ∧ isName g.nm = true ∧ (∀ k, k < g.N.length → nodeE g.N g.C k = 0) ∧ (∀ k, k < g.C.length → cluE g.N g.C k = 0) ∧ ∀ k, k < g.E.length → edgeE g.N (el g.E k) = 0 := by
  unfold validE at h
  split at h
  · omega
  · split at h
    · split at h
      · rename_i h0 h1 h2
        split at h
        · rename_i h3
          exact ⟨by omega, h1, fe_ok.1 h2, fe_ok.1 h3, fe_ok.1 h⟩
        · omega
      · omega
    · omega
theorem node_cl {N C : List (List D)} {i : Nat} (h : nodeE N C i = 0) : -1 ≤ cI (el N i) 4 ∧ cI (el N i) 4 < C.length := by
  unfold nodeE at h
  split at h
  · split at h
    · omega
    · split at h
      · split at h
        · rename_i h1
          simp only [Bool.and_eq_true, Bool.not_eq_true', decide_eq_false_iff_not] at h1
          omega
        · omega
      · omega
  · omega
theorem valid_okV {g : Gd} (h : validE g = 0) : okV g := by
  obtain ⟨⟨h1, _, h3⟩, _, h4, h5, _⟩ := valid_parts h
  exact ⟨h1, h3, okC_of h5, fun v hv => node_cl (h4 v hv)⟩
theorem okV_at {g : Gd} (h : okV g) {c : Int} (h0 : -1 ≤ c) (h1 : c < g.C.length) : atC g.C c := ⟨h0, h1, h.2.1, h.2.2.1.mono (by omega)⟩
theorem fits_get : ∀ {cts : List CT} {x : List D}, FitsF cts x → ∀ {j : Nat} {ct : CT}, cts[j]? = some ct → Wf ct (x.getD j default)
  | [], [], _, j, ct, hj => by simp at hj
  | c :: cts, d :: ds, ⟨h, h'⟩, 0, ct, hj => by simp at hj; subst hj; exact h
  | c :: cts, d :: ds, ⟨h, h'⟩, j + 1, ct, hj => by simpa using fits_get h' (j := j) (by simpa using hj)
  | [], _ :: _, h, _, _, _ => h.elim
  | _ :: _, [], h, _, _, _ => h.elim
theorem row_i {N : List (List D)} {cts : List CT} (h : ∀ x ∈ N, FitsF cts x) {j : Nat} (hj : cts[j]? = some (.int .i64)) {i : Nat} (hi : i < N.length) : (el N i).getD j default = .i (cI (el N i) j) := by
  obtain ⟨z, e, _⟩ := wf_i64 (fits_get (h _ (getD_mem [] hi)) hj)
  simp only [cI]
  rw [e]; rfl
theorem any_map (l : List Int) (c : Int) : anyN (fun j => c == cI (el (l.map encI) j) 0) l.length = l.contains c := by
  rw [Bool.eq_iff_iff, anyN_iff, List.contains_iff_mem]
  have e : ∀ j, j < l.length → cI (el (l.map encI) j) 0 = l.getD j 0 := fun j hj => by
    simp only [cI, el]
    rw [rowI hj]; rfl
  constructor
  · rintro ⟨j, hj, h⟩
    rw [e j hj] at h
    have : c = l.getD j 0 := by simpa using h
    rw [this]
    exact getD_mem 0 hj
  · intro h
    obtain ⟨j, hj, rfl⟩ := List.mem_iff_getElem.1 h
    exact ⟨j, hj, by rw [e j hj]; simp [List.getD, hj]⟩
theorem loopM60_0 : LoopMeets Try.prog F (R L60_0.key) L60_0 lb60_0 := by
  refine loop_meets (pre := R) mixed (sgAt_all (P := Try.prog) (pre := R) (Φ := F) (l := sg60) (List.forall_mem_cons.2 ⟨Meets.at (pre := R) (Φ := F) m26, List.forall_mem_cons.2 ⟨Meets.at (pre := R) (Φ := F) m89, List.forall_mem_cons.2 ⟨Meets.at (pre := R) (Φ := F) m61, (fun _ h => nomatch h)⟩⟩⟩)) (loops_n 0 lk60_0 fun k hk => by omega) L60_0 (fun ρ => ((ρ.getD 2 default).int - (ρ.getD 3 default).int).toNat) le60_0 fun ρ _ hq => ?_
  obtain ⟨c, g, j, acc, rfl, hj, hv, hc, ha⟩ : prMem ρ := hq
  have h64 := hv.1
  by_cases hlt : j < g.N.length
  · have hb := hv.2.2.2 j hlt
    have hat := okV_at hv hb.1 hb.2
    have hN : ∀ xs, xs = inR g.N g.C c j → RoundOk F (R L60_0.key) (fun ρ => ((ρ.getD 2 default).int - (ρ.getD 3 default).int).toNat) L60_0 [.i c, .l g.N, .i (g.N.length : Int), .i (j : Int), .s g.nm, .b g.dr, .l g.N, .l g.E, .l g.C, .l acc] [.i (-1), .i ((j + 1 : Nat) : Int), .l (acc ++ xs)] := by
      rintro xs rfl
      have hl : (inR g.N g.C c j).length ≤ 1 := by unfold inR; split <;> simp
      refine round_next ⟨⟨c, g, j + 1, _, rfl, by omega, hv, hc, by rw [List.length_append]; omega⟩, ?_, ?_⟩
      · show ((g.N.length : Int) - ((j + 1 : Nat) : Int)).toNat < ((g.N.length : Int) - (j : Int)).toNat
        omega
      · show lpMem [.i c, .l g.N, .i (g.N.length : Int), .i ((j + 1 : Nat) : Int), .s g.nm, .b g.dr, .l g.N, .l g.E, .l g.C, .l (acc ++ inR g.N g.C c j)] = lpMem [.i c, .l g.N, .i (g.N.length : Int), .i (j : Int), .s g.nm, .b g.dr, .l g.N, .l g.E, .l g.C, .l acc]
        simp only [lpMem, Int.toNat_natCast]
        rw [coll_next (f := inR g.N g.C c) hlt acc]
    simp (disch := omega) only [rt60_0, VT.ok, Nd.holds, X.outs, X.ds, X.d, Op1.ev, Op2.ev, takeD_zero, takeD_cons, List.cons_append, List.nil_append, List.getD_cons_zero, List.getD_cons_succ, D.int_i, D.bool_b, D.lst_l, ite_b, ite_or, Int.toNat_natCast, List.length_map, implies_true, true_and, F89, R89, F61, R61, ↓reduceIte, dle_t, dlt_t, w64', aroundD, ciFn, cL, cI, List.length_append, List.length_cons, List.length_nil]
    refine ⟨fun _ => hat, ?_⟩
    show if (decide (c < 0) || anyN (fun k => c == cI (el ((around g.C (cI (el g.N j) 4)).map encI) k) 0) (around g.C (cI (el g.N j) 4)).length) = true then _ else _
    rw [any_map]
    cases h : (decide (c < 0) || (around g.C (cI (el g.N j) 4)).contains c)
    · simp only [Bool.false_eq_true, if_false]
      have := hN [] (by rw [inR, inN, h]; rfl)
      rw [List.append_nil] at this
      exact this
    · simp only [if_true]
      exact hN [[.i (j : Int)]] (by rw [inR, inN, h]; rfl)
  · have hj' : j = g.N.length := by omega
    subst hj'
    simp (disch := omega) only [rt60_0, VT.ok, X.ds, X.d, Op2.ev, List.getD_cons_zero, List.getD_cons_succ, D.int_i, D.bool_b, Bool.false_eq_true, ↓reduceIte, dlt_f]
    refine round_exit (by omega) ?_
    show lpMem [.i c, .l g.N, .i (g.N.length : Int), .i (g.N.length : Int), .s g.nm, .b g.dr, .l g.N, .l g.E, .l g.C, .l acc] = _
    simp only [lpMem, Int.toNat_natCast, coll_end]
theorem valid_c {g : Gd} {c : Int} (h : ¬ (validE g = 0 ∧ -1 ≤ c ∧ c < g.C.length)) : ((!(validE g == 0) || decide (c < -1)) || decide ((g.C.length : Int) ≤ c)) = true := by
  simp only [Bool.or_eq_true, Bool.not_eq_true', beq_eq_false_iff_ne, decide_eq_true_eq]
  omega
theorem valid_c' {g : Gd} {c : Int} (h : validE g = 0 ∧ -1 ≤ c ∧ c < g.C.length) : ((!(validE g == 0) || decide (c < -1)) || decide ((g.C.length : Int) ≤ c)) = false := by
  simp only [Bool.or_eq_false_iff, Bool.not_eq_false', beq_iff_eq, decide_eq_false_iff_not]
  omega
theorem gOf_eq (g : Gd) (l : List D) : gOf (.s g.nm :: .b g.dr :: .l g.N :: .l g.E :: .l g.C :: l) = g := rfl
theorem m60 : Meets Try.prog 60 S60 (R 60) (F 60) := by
  refine meets_of_vt (pre := R) (Φ := F) mixed (sgAt_all (P := Try.prog) (pre := R) (Φ := F) (l := sg60) (List.forall_mem_cons.2 ⟨Meets.at (pre := R) (Φ := F) m26, List.forall_mem_cons.2 ⟨Meets.at (pre := R) (Φ := F) m89, List.forall_mem_cons.2 ⟨Meets.at (pre := R) (Φ := F) m61, (fun _ h => nomatch h)⟩⟩⟩)) Try.func60 b60 n60 (loops_n 1 k60 fun k hk => match k, hk with | 0, _ => loop_this lf60_0 loopM60_0) e60 fun ds hf hq => ?_
  obtain ⟨g, ds', rfl, h5, _⟩ := fitsG hf.flat
  obtain ⟨x, rfl, hx⟩ := fits1 h5
  obtain ⟨c, rfl, _⟩ := wf_i64 hx
  by_cases h : validE g = 0 ∧ -1 ≤ c ∧ c < g.C.length
  · have hpre : prMem [.i c, .l g.N, .i (g.N.length : Int), .i 0, .s g.nm, .b g.dr, .l g.N, .l g.E, .l g.C, .l []] := ⟨c, g, 0, [], rfl, by omega, valid_okV h.1, h.2.1, by simp⟩
    simp only [vt60, VT.ok, Nd.holds, X.outs, X.ds, X.d, Op1.ev, Op2.ev, takeD_zero, takeD_cons, List.cons_append, List.nil_append, List.getD_cons_zero, List.getD_cons_succ, D.int_i, D.bool_b, D.lst_l, ite_b, ite_or, Bool.false_eq_true, if_false, implies_true, true_and, and_true, F26, R26, F16000, R16000, F60, validD, gOf_eq, valid_c' h, memD, memR, if_pos h, cI, lpMem, Int.toNat_zero, mems]
    exact fun _ => hpre
  · simp only [vt60, VT.ok, Nd.holds, X.outs, X.ds, X.d, Op1.ev, Op2.ev, takeD_zero, takeD_cons, List.cons_append, List.nil_append, List.getD_cons_zero, List.getD_cons_succ, D.int_i, D.bool_b, D.lst_l, ite_b, ite_or, if_true, implies_true, and_true, F26, R26, F16000, R16000, F60, validD, gOf_eq, valid_c h, memD, memR, if_neg h, cI]
end Go.Proofs.Ytindllmeeckfcaa.rv
namespace Go.Proofs.Ytindllmeeckfcaa.rv
set_option maxRecDepth 10000
open Go.RV
theorem rowTsz {T : List (List Tp)} {i : Nat} (h : i < T.length) : (T.map encTs).getD i [] = encTs (T.getD i []) := row_get [] h
theorem lpP0_eq (p : Pn) (j : Nat) (M K : List Bx) : lpP0 [.i (p.g.C.length : Int), .i (j : Int), .i p.o.md, .i p.o.ns, .i p.o.rs, .i p.o.m, .i p.o.rd, .l (p.B.map encQ), p.d, .l (M.map encQ), .l (K.map encQ)] =
    [.i 0, .i (p.g.C.length : Int), .l ((putF (arP p) p.T j (M, K)).1.map encQ), .l ((putF (arP p) p.T j (M, K)).2.map encQ)] := by
  simp only [lpP0, pnOf_d, map_decQ, Int.toNat_natCast]
theorem putF_next {a : Ar} {T : List (List Tp)} {j : Nat} {s : Pl} (h : j < a.C.length) : putF a T j s = putF a T (j + 1) (putC a T s j) := fold_next h
theorem putF_end {a : Ar} {T : List (List Tp)} {s : Pl} : putF a T a.C.length s = s := fold_end
theorem getD_memT {T : List (List Tp)} {i : Nat} (h : i < T.length) : T.getD i [] ∈ T := getD_mem [] h
theorem prPu_mk (c x y : Int) (p : Pn) (T : List (List Tp)) (i : Nat) (M K : List Bx) (hi : i < T.length) (hT : ∀ l ∈ T, okTs p.g.C.length l ∧ l.length ≤ 64) (hs : p.small) (hx : -1073741824000 ≤ x ∧ x ≤ 1073741824000) (hy : -1073741824000 ≤ y ∧ y ≤ 1073741824000) (hM : M.length = p.g.N.length) (hK : K.length = p.g.C.length) :
    prPu [.l (p.B.map encQ), p.d, .l (M.map encQ), .l (K.map encQ), .i c, .l ((T.getD i []).map encT), .i x, .i y] :=
  ⟨c, x, y, T.getD i [], p, M, K, rfl, (hT _ (getD_memT hi)).2, hs, hx, hy, (hT _ (getD_memT hi)).1, hM, hK⟩
theorem prP0_mk (p : Pn) (j : Nat) (M K : List Bx) (hj : j ≤ p.g.C.length) (hp : p.good) (hM : M.length = p.g.N.length) (hK : K.length = p.g.C.length) (hn : near ((j + 1 : Nat) * 2147483648) K) :
    prP0 [.i (p.g.C.length : Int), .i (j : Int), .i p.o.md, .i p.o.ns, .i p.o.rs, .i p.o.m, .i p.o.rd, .l (p.B.map encQ), p.d, .l (M.map encQ), .l (K.map encQ)] := ⟨p, j, M, K, rfl, hj, hp, hM, hK, hn⟩
theorem loopM10_0 : LoopMeets Try.prog F (R L10_0.key) L10_0 lb10_0 := by
  refine loop_meets (pre := R) mixed (sgAt_all (P := Try.prog) (pre := R) (Φ := F) (l := sg10) (List.forall_mem_cons.2 ⟨Meets.at (pre := R) (Φ := F) m19, List.forall_mem_cons.2 ⟨Meets.at (pre := R) (Φ := F) m25, List.forall_mem_cons.2 ⟨ProcMeets.at1 mp10_0, List.forall_mem_cons.2 ⟨MeetsAt.name, (fun _ h => nomatch h)⟩⟩⟩⟩)) (loops_n 0 lk10_0 fun k hk => by omega) L10_0 (fun ρ => ((ρ.getD 0 default).int - (ρ.getD 1 default).int).toNat) le10_0 fun ρ _ hq => ?_
  obtain ⟨p, j, M, K, rfl, hj, hp, hM, hK, hn⟩ : prP0 ρ := hq
  have hp' := hp
  obtain ⟨hs, ho, hT, hTl⟩ := hp'
  have hs' := hs
  obtain ⟨⟨f1, f2, f3, f4⟩, hB⟩ := hs'
  have hom := (Od.ok_iff.1 ho).2.2.2.1
  have hlp := lpP0_eq p j M K
  by_cases hlt : j < p.g.C.length
  · have hnear := near_at hn (c := j) (by omega)
    have w1 : IntKind.i64.wrap ((K.getD j z4).1 + p.o.m) = (K.getD j z4).1 + p.o.m := w64 (by omega)
    have w2 : IntKind.i64.wrap ((K.getD j z4).2.1 + p.o.m) = (K.getD j z4).2.1 + p.o.m := w64 (by omega)
    have hpu := prPu_mk (j : Int) ((K.getD j z4).1 + p.o.m) ((K.getD j z4).2.1 + p.o.m) p p.T j M K (by omega) hTl hs (by omega) (by omega) hM hK
    have hpc := pcPu_eq (j : Int) ((K.getD j z4).1 + p.o.m) ((K.getD j z4).2.1 + p.o.m) (p.T.getD j []) p M K
    have hput : putTs p.B (ownL p.g.N (j : Int)) ((K.getD j z4).1 + p.o.m) ((K.getD j z4).2.1 + p.o.m) (p.T.getD j []) (M, K) = putC (arP p) p.T (M, K) j := rfl
    have hlen := pTs_len p.B (ownL p.g.N (j : Int)) ((K.getD j z4).1 + p.o.m) ((K.getD j z4).2.1 + p.o.m) (p.T.getD j []) (M, K)
    have hnr := near_put (n := (j + 1 : Nat) * 2147483648 + 1048576) (m := (j + 1 + 1 : Nat) * 2147483648) (B := p.B) (own := ownL p.g.N (j : Int)) (x := (K.getD j z4).1 + p.o.m) (y := (K.getD j z4).2.1 + p.o.m) (by omega) (by omega) (by omega) (p.T.getD j []) (M, K) (fun t ht => ((hTl _ (getD_memT (by omega))).1 t ht).1) (nearK_mono (by omega) hn)
    rw [hput] at hpc hlen hnr
    rw [putF_next (a := arP p) hlt] at hlp
    have e11 : p.d.ptd.getD 11 default = .l (p.T.map encTs) := rfl
    simp (disch := omega) only [rt10_0, VT.ok, Nd.holds, X.outs, X.ds, X.d, Op1.ev, Op2.ev, takeD_zero, takeD_cons, List.cons_append, List.nil_append, List.getD_cons_zero, List.getD_cons_succ, D.int_i, D.bool_b, D.lst_l, Int.toNat_natCast, List.length_map, implies_true, true_and, F17020000, R17020000, ↓reduceIte, dle_t, dlt_t, w64', e11, List.length_map, rowTsz, rowQz, encTs, encQ, w1, w2, hpc]
    refine ⟨fun _ => rfl, fun _ => hpu, ?_⟩
    refine round_step [.i (p.g.C.length : Int), .i ((j + 1 : Nat) : Int), .i p.o.md, .i p.o.ns, .i p.o.rs, .i p.o.m, .i p.o.rd, .l (p.B.map encQ), p.d, .l ((putC (arP p) p.T (M, K) j).1.map encQ), .l ((putC (arP p) p.T (M, K) j).2.map encQ)] rfl (prP0_mk p (j + 1) _ _ (by omega) hp (hlen.1.trans hM) (hlen.2.trans hK) hnr) ?_ ?_
    · show ((p.g.C.length : Int) - ((j + 1 : Nat) : Int)).toNat < ((p.g.C.length : Int) - (j : Int)).toNat
      omega
    · have e1 := lpP0_eq p (j + 1) (putC (arP p) p.T (M, K) j).1 (putC (arP p) p.T (M, K) j).2
      rw [show F L10_0.key = lpP0 from rfl]
      exact e1.trans hlp.symm
  · have hj : j = p.g.C.length := by omega
    subst hj
    simp (disch := omega) only [rt10_0, VT.ok, X.ds, X.d, Op2.ev, List.getD_cons_zero, List.getD_cons_succ, D.int_i, D.bool_b, Bool.false_eq_true, ↓reduceIte, dlt_f]
    refine round_exit (by omega) ?_
    rw [show F L10_0.key = lpP0 from rfl]
    refine hlp.trans ?_
    rw [show p.g.C.length = (arP p).C.length from rfl, putF_end]
theorem placeD_eq (g : Gd) (o : Od) (B : List Bx) : placeD [.s g.nm, .b g.dr, .l g.N, .l g.E, .l g.C, .i o.md, .i o.ns, .i o.rs, .i o.m, .i o.rd, .l (B.map encQ)] = [.l ((placeR g o B).1.1.map encQ), .l ((placeR g o B).1.2.map encQ), .i (placeR g o B).2] := by
  show (let r := placeR g o ((B.map encQ).map decQ); [D.l (r.1.1.map encQ), .l (r.1.2.map encQ), .i r.2]) = _
  rw [map_decQ]
theorem rep_Q (n : Nat) : List.replicate n [D.i 0, .i 0, .i 0, .i 0] = (List.replicate n z4).map encQ := by
  rw [List.map_replicate]; rfl
theorem put_len (a : Ar) (T : List (List Tp)) : ∀ (n i : Nat) (s : Pl), a.C.length - i = n → i ≤ a.C.length → (putF a T i s).1.length = s.1.length ∧ (putF a T i s).2.length = s.2.length
  | 0, i, s, hn, hi => by
    rw [show i = a.C.length by omega, putF_end]; exact ⟨rfl, rfl⟩
  | n + 1, i, s, hn, hi => by
    rw [putF_next (by omega)]
    obtain ⟨h1, h2⟩ := put_len a T n (i + 1) (putC a T s i) (by omega) (by omega)
    obtain ⟨h3, h4⟩ := pTs_len a.B (ownL a.N i) ((s.2.getD i z4).1 + a.m) ((s.2.getD i z4).2.1 + a.m) (T.getD i []) s
    exact ⟨h1.trans h3, h2.trans h4⟩
theorem m10 : Meets Try.prog 10 S10 (R 10) (F 10) := by
  refine meets_of_vt (pre := R) (Φ := F) mixed (sgAt_all (P := Try.prog) (pre := R) (Φ := F) (l := sg10) (List.forall_mem_cons.2 ⟨Meets.at (pre := R) (Φ := F) m19, List.forall_mem_cons.2 ⟨Meets.at (pre := R) (Φ := F) m25, List.forall_mem_cons.2 ⟨ProcMeets.at1 mp10_0, List.forall_mem_cons.2 ⟨MeetsAt.name, (fun _ h => nomatch h)⟩⟩⟩⟩)) Try.func10 b10 n10 (loops_n 1 k10 fun k hk => match k, hk with | 0, _ => loop_this lf10_0 loopM10_0) e10 fun ds hf _ => ?_
  obtain ⟨g, o, B, ds', rfl, h0, hm, _⟩ := fitsGO hf.flat
  obtain rfl := fits0 h0
  simp only [vt10, VT.ok, Nd.holds, X.outs, X.ds, X.d, Op1.ev, Op2.ev, List.cons_append, List.nil_append, List.getD_cons_zero, List.getD_cons_succ, D.int_i, D.bool_b, D.lst_l, Int.toNat_natCast, implies_true, true_and, F25, R25, F19, R19, F17020000, R17020000, F11000, R11000, F10, planD_eq, placeD_eq]
  by_cases h : inE g o B = 0
  · obtain ⟨h1, h2, h3, h4, h5⟩ := inE_ok h
    obtain ⟨v1, v2⟩ := valid_len h1
    rw [if_pos h]
    cases ha : (arOf g o B).all with
    | none =>
      have hr : placeR g o B = (([], []), 2) := by rw [placeR, if_pos h, ha]
      rw [hr]; rfl
    | some r =>
      obtain ⟨S, T⟩ := r
      have hd := all_done (a := arOf g o B) (valid_okV h1).2.2.1 ha
      have hsl : S.length = g.C.length := hd.sl
      have htl : T.length = g.C.length + 1 := hd.tl
      have hTl : ∀ l ∈ T, okTs g.C.length l ∧ l.length ≤ 64 := hd.okT
      have hbB : ∀ b ∈ B, smQ b := fun b hb => smQ_of (badB_ok h4 b hb)
      generalize hpp : Pn.mk g o B T S = p
      have pg : p.g = g := by rw [← hpp]
      have po : p.o = o := by rw [← hpp]
      have pB : p.B = B := by rw [← hpp]
      have pT : p.T = T := by rw [← hpp]
      have pS : p.S = S := by rw [← hpp]
      have ha' : arP p = arOf g o B := by rw [← hpp]; rfl
      subst pg po pB pT pS
      have hs : p.small := ⟨⟨v1, v2, h3, hsl⟩, hbB⟩
      have hgood : p.good := ⟨hs, h2, htl, hTl⟩
      have hpu := prPu_mk (-1) 0 0 p p.T p.g.C.length (List.replicate p.g.N.length z4) (List.replicate p.g.C.length z4) (by omega) hTl hs (by omega) (by omega) List.length_replicate List.length_replicate
      have hpc := pcPu_eq (-1) 0 0 (p.T.getD p.g.C.length []) p (List.replicate p.g.N.length z4) (List.replicate p.g.C.length z4)
      have hput : putTs p.B (ownL p.g.N (-1)) 0 0 (p.T.getD p.g.C.length []) (List.replicate p.g.N.length z4, List.replicate p.g.C.length z4) = put0 (arP p) p.T := rfl
      have hlen := pTs_len p.B (ownL p.g.N (-1)) 0 0 (p.T.getD p.g.C.length []) (List.replicate p.g.N.length z4, List.replicate p.g.C.length z4)
      have hnr := near_put (n := 0) (m := (0 + 1 : Nat) * 2147483648) (B := p.B) (own := ownL p.g.N (-1)) (x := 0) (y := 0) (by omega) (by omega) (by omega) (p.T.getD p.g.C.length []) (List.replicate p.g.N.length z4, List.replicate p.g.C.length z4) (fun t ht => ((hTl _ (getD_memT (by omega))).1 t ht).1) (near_z _ (by omega))
      rw [hput] at hpc hlen hnr
      have hl1 : (put0 (arP p) p.T).1.length = p.g.N.length := hlen.1.trans List.length_replicate
      have hl2 : (put0 (arP p) p.T).2.length = p.g.C.length := hlen.2.trans List.length_replicate
      have hpP := prP0_mk p 0 (put0 (arP p) p.T).1 (put0 (arP p) p.T).2 (by omega) hgood hl1 hl2 hnr
      have hlP := lpP0_eq p 0 (put0 (arP p) p.T).1 (put0 (arP p) p.T).2
      have hFF : putF (arP p) p.T 0 ((put0 (arP p) p.T).1, (put0 (arP p) p.T).2) = put (arP p) p.T := rfl
      rw [hFF] at hlP
      have hr : placeR p.g p.o p.B = if (badL (put (arP p) p.T).1 || badL (put (arP p) p.T).2) = true then (([], []), 2) else (put (arP p) p.T, 0) := by rw [placeR, if_pos h, ha, ← ha']
      obtain ⟨c1, c2⟩ := cfBad (.inl rfl : 24 = 24 ∨ 24 = 27) (put (arP p) p.T).1
      obtain ⟨c3, c4⟩ := cfBad (.inl rfl : 24 = 24 ∨ 24 = 27) (put (arP p) p.T).2
      have e11 : p.d.ptd.getD 11 default = .l (p.T.map encTs) := rfl
      have epd : (Pn.mk p.g p.o p.B p.T p.S).d = p.d := rfl
      have hlP' : lpP0 [.i (p.g.C.length : Int), .i 0, .i p.o.md, .i p.o.ns, .i p.o.rs, .i p.o.m, .i p.o.rd, .l (p.B.map encQ), p.d, .l ((put0 (arP p) p.T).1.map encQ), .l ((put0 (arP p) p.T).2.map encQ)] = _ := hlP
      rw [hr]
      simp (disch := omega) only [takeD_zero, takeD_cons, List.cons_append, List.nil_append, List.getD_cons_zero, List.getD_cons_succ, D.int_i, D.bool_b, D.lst_l, ite_b, ite_or, List.length_map, Bool.false_eq_true, implies_true, true_and, ↓reduceIte, dle_t, dlt_t, beq_t, epd, e11, rep_Q, List.length_map, List.length_replicate, rowTsz, encTs, hpc, hl2, hlP', c2, c4, Bool.not_true]
      refine ⟨fun _ => rfl, fun _ => hpu, fun _ => hpP, fun _ => c1, fun _ => c3, ?_⟩
      cases badL (put (arP p) p.T).1
      · cases badL (put (arP p) p.T).2
        · rfl
        · rfl
      · rfl
  · have hb : (!(inE g o B == 0)) = true := by simp [h]
    have hr : placeR g o B = (([], []), inE g o B) := by rw [placeR, if_neg h]
    rw [if_neg h, hr]
    simp only [takeD_zero, takeD_cons, List.cons_append, List.nil_append, List.getD_cons_zero, List.getD_cons_succ, D.int_i, if_true, hb, if_true]
    rfl
end Go.Proofs.Ytindllmeeckfcaa.rv
namespace Go.Proofs.Ytindllmeeckfcaa.rv
set_option maxRecDepth 10000
open Go.RV
theorem putN_cons (B : List Bx) (v : Nat) (l : List Nat) (x y : Int) (M : List Bx) : putN B (v :: l) x y M = putN B l x y (M.set v (shQ (B.getD v z4) x y)) := rfl
theorem putK_cons (x y : Int) (t : Nat × Bx) (l : List (Nat × Bx)) (K : List Bx) : putK x y (t :: l) K = putK x y l (K.set t.1 (shQ t.2 x y)) := rfl
theorem putTs_kids (B : List Bx) (own : List Nat) (x y : Int) : ∀ (l : List Nat) (L : List Bx) (M K : List Bx), putTs B own x y ((l.map fun k : Nat => (k : Int)).zip L) (M, K) = (M, putK x y (l.zip L) K)
  | [], L, M, K => rfl
  | k :: l, [], M, K => rfl
  | k :: l, q :: L, M, K => by
    show putTs B own x y ((l.map fun k : Nat => (k : Int)).zip L) (putT B own x y (M, K) ((k : Int), q)) = (M, putK x y (l.zip L) (K.set k (shQ q x y)))
    rw [← putTs_kids B own x y l L M (K.set k (shQ q x y)), putT, if_pos (show (0 : Int) ≤ k by omega)]
    rfl
theorem putTs_own {a : Ar} {S : List Pt} {c : Int} (h : 0 < (ownL a.N c).length) (x y : Int) (M K : List Bx) : putTs a.B (ownL a.N c) x y (a.t S c) (M, K) =
    (putN a.B (ownL a.N c) (x + ((best (a.P S c) a.ns).getD 0 z4).1 - (blkB a.B (ownL a.N c)).1) (y + ((best (a.P S c) a.ns).getD 0 z4).2.1 - (blkB a.B (ownL a.N c)).2.1) M, putK x y ((kidL a.C c).zip ((best (a.P S c) a.ns).drop 1)) K) := by
  have e : a.t S c = (heads a.N a.C c).zip (best (a.P S c) a.ns) := rfl
  have hl : (best (a.P S c) a.ns).length = (a.P S c).length := best_len ..
  have hp : 0 < (a.P S c).length := by
    show 0 < (partP a.N a.C a.B S c).length
    rw [← heads_len, heads, if_pos h]
    simp
  rw [e, heads, if_pos h]
  generalize best (a.P S c) a.ns = L at hl
  cases L with
  | nil => simp at hl; omega
  | cons q L =>
    show putTs a.B (ownL a.N c) x y (((kidL a.C c).map fun k : Nat => (k : Int)).zip L) (putT a.B (ownL a.N c) x y (M, K) (-1, q)) = _
    rw [putT, if_neg (show ¬ (0 : Int) ≤ -1 by omega), putTs_kids]
    show (putN a.B (ownL a.N c) (q.1 + x - (blkB a.B (ownL a.N c)).1) (q.2.1 + y - (blkB a.B (ownL a.N c)).2.1) M, _) = (putN a.B (ownL a.N c) (x + q.1 - (blkB a.B (ownL a.N c)).1) (y + q.2.1 - (blkB a.B (ownL a.N c)).2.1) M, _)
    rw [Int.add_comm x q.1, Int.add_comm y q.2.1]
    rfl
theorem putTs_none {a : Ar} {S : List Pt} {c : Int} (h : ¬ 0 < (ownL a.N c).length) (x y : Int) (M K : List Bx) : putTs a.B (ownL a.N c) x y (a.t S c) (M, K) = (M, putK x y ((kidL a.C c).zip (best (a.P S c) a.ns)) K) := by
  have e : a.t S c = (heads a.N a.C c).zip (best (a.P S c) a.ns) := rfl
  rw [e, heads, if_neg h, List.nil_append, putTs_kids]
end Go.Proofs.Ytindllmeeckfcaa.rv
namespace Go.Proofs.Ytindllmeeckfcaa.rv
set_option maxRecDepth 10000
open Go.RV
section
variable {C : List (List D)} (hok : okC C C.length)
include hok
theorem ar_at {k : Int} (h0 : 0 ≤ k) (hk : k < C.length) : around C k = k :: around C (cI (el C k.toNat) 1) := around_at h0 (hok.mono (by omega))
theorem ar_par {k : Int} (h0 : 0 ≤ k) (hk : k < C.length) : -1 ≤ cI (el C k.toNat) 1 ∧ cI (el C k.toNat) 1 < k := by
  have := hok k.toNat (by omega)
  omega
theorem ar_mem : ∀ (n : Nat) (k : Int), k < n → k < C.length → ∀ c ∈ around C k, 0 ≤ c ∧ c ≤ k
  | 0, k, h, _, c, hc => by rw [around_neg (by omega)] at hc; simp at hc
  | n + 1, k, h, hk, c, hc => by
    by_cases h0 : 0 ≤ k
    · have hp := ar_par hok h0 hk
      rw [ar_at hok h0 hk, List.mem_cons] at hc
      rcases hc with rfl | hc
      · omega
      · have := ar_mem n (cI (el C k.toNat) 1) (by omega) (by omega) c hc
        omega
    · rw [around_neg (by omega)] at hc; simp at hc
end
end Go.Proofs.Ytindllmeeckfcaa.rv
namespace Go.Proofs.Ytindllmeeckfcaa.rv
set_option maxRecDepth 10000
open Go.RV
theorem pick_has {p : Nat → Bool} {n w : Nat} (h : w < n) : (pickN p n).contains w = p w := by
  rw [Bool.eq_iff_iff, List.contains_iff_mem]
  unfold pickN
  rw [List.mem_filter, List.mem_range]
  exact ⟨fun h => h.2, fun h2 => ⟨h, h2⟩⟩
theorem hasN (l : List Nat) (w : Nat) : anyN (fun k => (w : Int) == cI (el (l.map encN) k) 0) l.length = l.contains w := by
  have e : ∀ k, k < l.length → cI (el (l.map encN) k) 0 = (l.getD k 0 : Nat) := fun k hk => by
    simp only [cI, el]
    rw [rowNn hk]; rfl
  rw [Bool.eq_iff_iff, anyN_iff, List.contains_iff_mem]
  constructor
  · rintro ⟨k, hk, h⟩
    rw [e k hk, beq_iff_eq] at h
    have : w = l.getD k 0 := by omega
    rw [this]
    exact getD_memN hk
  · intro h
    obtain ⟨k, hk, h2⟩ := List.getElem_of_mem h
    refine ⟨k, hk, ?_⟩
    rw [e k hk, beq_iff_eq]
    simp [List.getD, hk, h2]
theorem ciN_eq (l : List Nat) (w : Nat) : ciFn [.l (l.map encN), .i (w : Int)] = [.b (l.contains w)] := by
  rw [← hasN]
  show [D.b (anyN _ (l.map encN).length)] = _
  rw [List.length_map]
  rfl
def memL (g : Gd) (c : Nat) : List Nat := pickN (inN g.N g.C c) g.N.length
theorem memD_eq {g : Gd} (h : validE g = 0) {c : Nat} (hc : c < g.C.length) : memD [.s g.nm, .b g.dr, .l g.N, .l g.E, .l g.C, .i (c : Int)] = [.l ((memL g c).map encN)] := by
  have e : memR g (c : Int) = mems g.N g.C (c : Int) := if_pos ⟨h, by omega, by omega⟩
  show [D.l (memR g (c : Int))] = _
  rw [e]
  unfold mems memL
  rw [← one1_pick]
  rfl
theorem conD_eq (g : Gd) (c : Int) (k : Nat) : conD [.s g.nm, .b g.dr, .l g.N, .l g.E, .l g.C, .i c, .i (k : Int)] = [.b ((around g.C (cP g.C k)).contains c)] := by
  simp only [conD, cL, cI, List.getD_cons_succ, List.getD_cons_zero, D.lst_l, D.int_i, Int.toNat_natCast]
theorem m56 : Meets Try.prog 56 S56 (R 56) (F 56) := by
  refine meets_of_vt (pre := R) (Φ := F) mixed (sgAt_all (P := Try.prog) (pre := R) (Φ := F) (l := sg56) (List.forall_mem_cons.2 ⟨Meets.at (pre := R) (Φ := F) m58, List.forall_mem_cons.2 ⟨Meets.at (pre := R) (Φ := F) m57, (fun _ h => nomatch h)⟩⟩)) Try.func56 b56 n56 (loops_n 0 k56 fun k hk => by omega) e56 fun ds _ hq => ?_
  obtain ⟨q, c, K, m, rfl, hc, hm⟩ : okInP ds := hq
  have hn : IntKind.i64.wrap (-m) = -m := w64 (by omega)
  have hout : okInD [.i q.1, .i q.2.1, .i q.2.2.1, .i q.2.2.2, c, .p [.l (K.map encQ)], .p [.i m]] = [.b (okIn q K c.int m)] := by
    show [D.b (okIn q ((K.map encQ).map decQ) c.int m)] = _
    rw [map_decQ]
  have hif := fn58_eq (K.getD c.int.toNat z4) (-m)
  by_cases h0 : c.int < 0
  · have hd : decide (c.int < 0) = true := decide_eq_true h0
    simp (disch := omega) only [vt56, VT.ok, Nd.holds, X.outs, X.ds, X.d, Op1.ev, Op2.ev, List.cons_append, List.nil_append, List.getD_cons_zero, List.getD_cons_succ, D.int_i, D.bool_b, D.lst_l, List.length_map, Bool.false_eq_true, implies_true, and_true, false_implies, F58, R58, F57, R57, F56, ↓reduceIte, dle_f, dlt_t, w64', D.ptd_p, hout, okIn, hd, Bool.not_true, Bool.true_or]
  · have hd : decide (c.int < 0) = false := decide_eq_false h0
    simp (disch := omega) only [vt56, VT.ok, Nd.holds, X.outs, X.ds, X.d, Op1.ev, Op2.ev, takeD_zero, takeD_cons, List.cons_append, List.nil_append, List.getD_cons_zero, List.getD_cons_succ, D.int_i, D.bool_b, D.lst_l, List.length_map, Bool.false_eq_true, implies_true, and_true, F58, R58, F57, R57, F56, ↓reduceIte, dle_t, dlt_t, D.ptd_p, hout, okIn, hd, Bool.not_false, Bool.false_or, List.length_map, rowQz, encQ, hn, Int.zero_sub, hif, fn57_eq]
theorem loopM30_0 : LoopMeets Try.prog F (R L30_0.key) L30_0 lb30_0 := by
  refine loop_meets (pre := R) mixed (sgAt_all (P := Try.prog) (pre := R) (Φ := F) (l := sg30) (List.forall_mem_cons.2 ⟨Meets.at (pre := R) (Φ := F) m56, (fun _ h => nomatch h)⟩)) (loops_n 0 lk30_0 fun k hk => by omega) L30_0 (fun ρ => ((ρ.getD 3 default).int - (ρ.getD 4 default).int).toNat) le30_0 fun ρ _ hq => ?_
  obtain ⟨v, M, K, N, m, j, rfl, hj, h64, hM, hN, hm1, hm2⟩ : prI0 ρ := hq
  by_cases hlt : j < N.length
  · have hpre : okInP [.i (M.getD j z4).1, .i (M.getD j z4).2.1, .i (M.getD j z4).2.2.1, .i (M.getD j z4).2.2.2, (N.getD j []).getD 4 default, .p [.l (K.map encQ)], .p [.i m]] := ⟨_, _, K, m, rfl, (hN j hlt).2, hm1, hm2⟩
    have hout : okInD [.i (M.getD j z4).1, .i (M.getD j z4).2.1, .i (M.getD j z4).2.2.1, .i (M.getD j z4).2.2.2, (N.getD j []).getD 4 default, .p [.l (K.map encQ)], .p [.i m]] = [.b (okIn (M.getD j z4) K (nC N j) m)] := by
      show [D.b (okIn (M.getD j z4) ((K.map encQ).map decQ) (nC N j) m)] = _
      rw [map_decQ]
    simp (disch := omega) only [rt30_0, VT.ok, Nd.holds, X.outs, X.ds, X.d, Op1.ev, Op2.ev, takeD_zero, takeD_cons, List.cons_append, List.nil_append, List.getD_cons_zero, List.getD_cons_succ, D.int_i, D.bool_b, D.lst_l, Int.toNat_natCast, List.length_map, implies_true, true_and, F56, R56, ↓reduceIte, dle_t, dlt_t, w64', rowQz, encQ, hout]
    refine ⟨fun _ => hpre, ?_⟩
    show if outN N M K m j = true then _ else _
    cases hb : outN N M K m j
    · simp only [Bool.false_eq_true, if_false]
      refine round_next ⟨⟨v, M, K, N, m, j + 1, rfl, by omega, h64, hM, hN, hm1, hm2⟩, ?_, ?_⟩
      · show ((N.length : Int) - ((j + 1 : Nat) : Int)).toNat < ((N.length : Int) - (j : Int)).toNat
        omega
      · show lpI0 [.l (M.map encQ), v, .l N, .i (N.length : Int), .i ((j + 1 : Nat) : Int), .i m, .l (K.map encQ)] = lpI0 [.l (M.map encQ), v, .l N, .i (N.length : Int), .i (j : Int), .i m, .l (K.map encQ)]
        simp only [lpI0, map_decQ, scB, Int.toNat_natCast]
        exact scan_next hlt hb
    · simp only [if_true]
      refine round_exit (by omega) ?_
      show lpI0 [.l (M.map encQ), v, .l N, .i (N.length : Int), .i (j : Int), .i m, .l (K.map encQ)] = _
      simp only [lpI0, map_decQ, scB, Int.toNat_natCast]
      exact scan_hit hlt hb
  · have hj' : j = N.length := by omega
    subst hj'
    simp (disch := omega) only [rt30_0, VT.ok, X.ds, X.d, Op2.ev, List.getD_cons_zero, List.getD_cons_succ, D.int_i, D.bool_b, Bool.false_eq_true, ↓reduceIte, dlt_f]
    refine round_exit (by omega) ?_
    show lpI0 [.l (M.map encQ), v, .l N, .i (N.length : Int), .i (N.length : Int), .i m, .l (K.map encQ)] = _
    simp only [lpI0, map_decQ, scB, Int.toNat_natCast]
    exact scan_end
theorem loopM30_1 : LoopMeets Try.prog F (R L30_1.key) L30_1 lb30_1 := by
  refine loop_meets (pre := R) mixed (sgAt_all (P := Try.prog) (pre := R) (Φ := F) (l := sg30) (List.forall_mem_cons.2 ⟨Meets.at (pre := R) (Φ := F) m56, (fun _ h => nomatch h)⟩)) (loops_n 0 lk30_1 fun k hk => by omega) L30_1 (fun ρ => ((ρ.getD 2 default).int - (ρ.getD 3 default).int).toNat) le30_1 fun ρ _ hq => ?_
  obtain ⟨v, K, C, m, j, rfl, hj, h16, hK, hC, hm1, hm2⟩ : prI1 ρ := hq
  by_cases hlt : j < C.length
  · have hpre : okInP [.i (K.getD j z4).1, .i (K.getD j z4).2.1, .i (K.getD j z4).2.2.1, .i (K.getD j z4).2.2.2, (C.getD j []).getD 1 default, .p [.l (K.map encQ)], .p [.i m]] := ⟨_, _, K, m, rfl, by rw [hK]; exact (hC j hlt).2, hm1, hm2⟩
    have hout : okInD [.i (K.getD j z4).1, .i (K.getD j z4).2.1, .i (K.getD j z4).2.2.1, .i (K.getD j z4).2.2.2, (C.getD j []).getD 1 default, .p [.l (K.map encQ)], .p [.i m]] = [.b (okIn (K.getD j z4) K (cP C j) m)] := by
      show [D.b (okIn (K.getD j z4) ((K.map encQ).map decQ) (cP C j) m)] = _
      rw [map_decQ]
    simp (disch := omega) only [rt30_1, VT.ok, Nd.holds, X.outs, X.ds, X.d, Op1.ev, Op2.ev, takeD_zero, takeD_cons, List.cons_append, List.nil_append, List.getD_cons_zero, List.getD_cons_succ, D.int_i, D.bool_b, D.lst_l, Int.toNat_natCast, List.length_map, implies_true, true_and, F56, R56, ↓reduceIte, dle_t, dlt_t, w64', rowQz, encQ, hout]
    refine ⟨fun _ => hpre, ?_⟩
    show if outC C K m j = true then _ else _
    cases hb : outC C K m j
    · simp only [Bool.false_eq_true, if_false]
      refine round_next ⟨⟨v, K, C, m, j + 1, rfl, by omega, h16, hK, hC, hm1, hm2⟩, ?_, ?_⟩
      · show ((C.length : Int) - ((j + 1 : Nat) : Int)).toNat < ((C.length : Int) - (j : Int)).toNat
        omega
      · show lpI1 [v, .l C, .i (C.length : Int), .i ((j + 1 : Nat) : Int), .i m, .l (K.map encQ)] = lpI1 [v, .l C, .i (C.length : Int), .i (j : Int), .i m, .l (K.map encQ)]
        simp only [lpI1, map_decQ, scB, Int.toNat_natCast]
        exact scan_next hlt hb
    · simp only [if_true]
      refine round_exit (by omega) ?_
      show lpI1 [v, .l C, .i (C.length : Int), .i (j : Int), .i m, .l (K.map encQ)] = _
      simp only [lpI1, map_decQ, scB, Int.toNat_natCast]
      exact scan_hit hlt hb
  · have hj' : j = C.length := by omega
    subst hj'
    simp (disch := omega) only [rt30_1, VT.ok, X.ds, X.d, Op2.ev, List.getD_cons_zero, List.getD_cons_succ, D.int_i, D.bool_b, Bool.false_eq_true, ↓reduceIte, dlt_f]
    refine round_exit (by omega) ?_
    show lpI1 [v, .l C, .i (C.length : Int), .i (C.length : Int), .i m, .l (K.map encQ)] = _
    simp only [lpI1, map_decQ, scB, Int.toNat_natCast]
    exact scan_end
theorem withD_eq (g : Gd) (m : Int) (M K : List Bx) : withD [.s g.nm, .b g.dr, .l g.N, .l g.E, .l g.C, .i m, .l (M.map encQ), .l (K.map encQ)] = [.b (withinB g m M K)] := by
  show [D.b (withinB g m ((M.map encQ).map decQ) ((K.map encQ).map decQ))] = _
  rw [map_decQ, map_decQ]
theorem m30 : Meets Try.prog 30 S30 (R 30) (F 30) := by
  refine meets_of_vt (pre := R) (Φ := F) mixed (sgAt_all (P := Try.prog) (pre := R) (Φ := F) (l := sg30) (List.forall_mem_cons.2 ⟨Meets.at (pre := R) (Φ := F) m56, (fun _ h => nomatch h)⟩)) Try.func30 b30 n30 (loops_n 2 k30 fun k hk => match k, hk with | 0, _ => loop_this lf30_0 loopM30_0 | 1, _ => loop_this lf30_1 loopM30_1) e30 fun ds _ hq => ?_
  obtain ⟨g, m, M, K, rfl, h64, h16, hM, hK, hN, hC, hm1, hm2⟩ : withP ds := hq
  have e1 : lpI0 [.l (M.map encQ), .b false, .l g.N, .i (g.N.length : Int), .i 0, .i m, .l (K.map encQ)] = scanN (outN g.N M K m) (fun j => [.i 0, .b false, .i (j : Int)]) (fun j => [.i 1, .b false, .i (j : Int)]) g.N.length 0 := by
    simp only [lpI0, map_decQ, scB, Int.toNat_zero, Nat.sub_zero]
  have e2 : lpI1 [.b false, .l g.C, .i (g.C.length : Int), .i 0, .i m, .l (K.map encQ)] = scanN (outC g.C K m) (fun j => [.i 0, .b false, .i (j : Int)]) (fun j => [.i 1, .b false, .i (j : Int)]) g.C.length 0 := by
    simp only [lpI1, map_decQ, scB, Int.toNat_zero, Nat.sub_zero]
  have p1 : prI0 [.l (M.map encQ), .b false, .l g.N, .i (g.N.length : Int), .i 0, .i m, .l (K.map encQ)] := ⟨_, M, K, g.N, m, 0, rfl, by omega, h64, hM, hN, hm1, hm2⟩
  have p2 : prI1 [.b false, .l g.C, .i (g.C.length : Int), .i 0, .i m, .l (K.map encQ)] := ⟨_, K, g.C, m, 0, rfl, by omega, h16, hK, hC, hm1, hm2⟩
  simp only [vt30, VT.ok, Nd.holds, X.outs, X.ds, X.d, Op1.ev, Op2.ev, List.cons_append, List.nil_append, List.getD_cons_zero, List.getD_cons_succ, D.int_i, D.bool_b, D.lst_l, F13000, R13000, F13001, R13001, F30, e1, withD_eq]
  refine ⟨fun _ => p1, ?_⟩
  rcases scan_any (p := outN g.N M K m) (hit := fun j => [D.i 0, .b false, .i (j : Int)]) (miss := fun j => [D.i 1, .b false, .i (j : Int)]) g.N.length with ⟨k1, j, _, _, _, k2⟩ | ⟨k1, k2⟩
  · rw [k2, withinB, k1]; rfl
  · rw [k2]
    simp only [takeD_zero, takeD_cons, List.cons_append, List.nil_append, List.getD_cons_zero, List.getD_cons_succ, D.int_i, Bool.false_eq_true, if_false, show ((1 : Int) == 0) = false from rfl, e2]
    refine ⟨fun _ => p2, ?_⟩
    rcases scan_any (p := outC g.C K m) (hit := fun j => [D.i 0, .b false, .i (j : Int)]) (miss := fun j => [D.i 1, .b false, .i (j : Int)]) g.C.length with ⟨k3, j, _, _, _, k4⟩ | ⟨k3, k4⟩
    · rw [k4, withinB, k1, k3]; rfl
    · rw [k4, withinB, k1, k3]; rfl
theorem loopM62_0 : LoopMeets Try.prog F (R L62_0.key) L62_0 lb62_0 := by
  refine loop_meets (pre := R) mixed (sgAt_all (P := Try.prog) (pre := R) (Φ := F) (l := sg62) ((fun _ h => nomatch h))) (loops_n 0 lk62_0 fun k hk => by omega) L62_0 (fun ρ => ((ρ.getD 2 default).int + 1).toNat) le62_0 fun ρ _ hq => ?_
  obtain ⟨c, v, k, g, rfl, hat, hrow⟩ : prHas ρ := hq
  have hat0 := hat
  obtain ⟨h1, h2, h3, h4⟩ := hat
  by_cases h0 : 0 ≤ k
  · have hn : k.toNat < g.C.length := by omega
    have hr : (g.C.getD k.toNat []).getD 1 default = .i (cI (el g.C k.toNat) 1) := hrow _ hn
    have hb := h4 k.toNat (by omega)
    by_cases hc : k = c
    · subst hc
      simp (disch := omega) only [rt62_0, VT.ok, X.ds, X.d, Op2.ev, List.getD_cons_zero, List.getD_cons_succ, D.int_i, D.bool_b, ↓reduceIte, dle_t, beq_t]
      refine round_exit (by omega) ?_
      show lpHas [.i k, v, .i k, .s g.nm, .b g.dr, .l g.N, .l g.E, .l g.C] = _
      simp only [lpHas, around_at h0 h4]
      rw [if_pos (by simp)]
    · simp (disch := omega) only [rt62_0, VT.ok, Nd.holds, X.ds, X.d, Op1.ev, Op2.ev, List.getD_cons_zero, List.getD_cons_succ, D.int_i, D.bool_b, D.lst_l, Bool.false_eq_true, implies_true, true_and, ↓reduceIte, dle_t, dlt_t, beq_f, hr]
      refine round_next ⟨⟨c, v, cI (el g.C k.toNat) 1, g, rfl, atC_up hat0 h0, hrow⟩, ?_, ?_⟩
      · show (cI (el g.C k.toNat) 1 + 1).toNat < (k + 1).toNat
        omega
      · show lpHas [.i c, v, .i (cI (el g.C k.toNat) 1), .s g.nm, .b g.dr, .l g.N, .l g.E, .l g.C] = lpHas [.i c, v, .i k, .s g.nm, .b g.dr, .l g.N, .l g.E, .l g.C]
        simp only [lpHas, around_at h0 h4]
        rw [List.contains_cons, show (c == k) = false from beq_f (by omega), Bool.false_or]
  · simp (disch := omega) only [rt62_0, VT.ok, X.ds, X.d, Op2.ev, List.getD_cons_zero, List.getD_cons_succ, D.int_i, D.bool_b, Bool.false_eq_true, ↓reduceIte, dle_f]
    refine round_exit (by omega) ?_
    show lpHas [.i c, v, .i k, .s g.nm, .b g.dr, .l g.N, .l g.E, .l g.C] = _
    have : k = -1 := by omega
    subst this
    simp only [lpHas, around_neg (show (-1 : Int) < 0 by omega)]
    rfl
theorem m62 : Meets Try.prog 62 S62 (R 62) (F 62) := by
  refine meets_of_vt (pre := R) (Φ := F) mixed (sgAt_all (P := Try.prog) (pre := R) (Φ := F) (l := sg62) ((fun _ h => nomatch h))) Try.func62 b62 n62 (loops_n 1 k62 fun k hk => match k, hk with | 0, _ => loop_this lf62_0 loopM62_0) e62 fun ds hf hq => ?_
  obtain ⟨g', ds', e, h5, _, _, _, ⟨_, hC⟩⟩ := fitsG hf.flat
  obtain ⟨g, c, k, rfl, hk, hv⟩ : conP ds := hq
  simp only [List.cons.injEq, D.s.injEq, D.b.injEq, D.l.injEq] at e
  obtain ⟨_, _, _, _, e5, _⟩ := e
  rw [← e5] at hC
  obtain ⟨v1, v2, v3, v4⟩ := valid_okV hv
  have hr : (g.C.getD k []).getD 1 default = .i (cI (el g.C k) 1) := row_i hC rfl hk
  have hb := v3 k hk
  have hpre : prHas [.i c, .b false, .i (cI (el g.C k) 1), .s g.nm, .b g.dr, .l g.N, .l g.E, .l g.C] := ⟨c, _, _, g, rfl, ⟨by omega, by omega, v2, v3.mono (by omega)⟩, rowI1_of hC⟩
  simp (disch := omega) only [vt62, VT.ok, Nd.holds, X.outs, X.ds, X.d, Op1.ev, Op2.ev, List.cons_append, List.nil_append, List.getD_cons_zero, List.getD_cons_succ, D.int_i, D.bool_b, D.lst_l, Int.toNat_natCast, implies_true, true_and, F16200, R16200, F62, dle_t, dlt_t, hr, conD_eq]
  refine ⟨fun _ => hpre, ?_⟩
  show _
  cases h : (around g.C (cP g.C k)).contains c
  · have h' : (around g.C (cI (el g.C k) 1)).contains c = false := h
    simp only [lpHas, h', Bool.false_eq_true, if_false, takeD_zero, takeD_cons, List.getD_cons_zero, List.getD_cons_succ, D.int_i, Bool.false_eq_true, if_false]
    rw [if_neg (by decide)]; trivial
  · have h' : (around g.C (cI (el g.C k) 1)).contains c = true := h
    simp only [lpHas, h', if_true, takeD_zero, takeD_cons, List.getD_cons_zero, List.getD_cons_succ, D.int_i, if_true]
    rw [if_pos (by rfl)]; trivial
end Go.Proofs.Ytindllmeeckfcaa.rv
namespace Go.Proofs.Ytindllmeeckfcaa.rv
set_option maxRecDepth 10000
open Go.RV
theorem loopM31_0 : LoopMeets Try.prog F (R L31_0.key) L31_0 lb31_0 := by
  refine loop_meets (pre := R) mixed (sgAt_all (P := Try.prog) (pre := R) (Φ := F) (l := sg31) (List.forall_mem_cons.2 ⟨Meets.at (pre := R) (Φ := F) m25, List.forall_mem_cons.2 ⟨Meets.at (pre := R) (Φ := F) m60, List.forall_mem_cons.2 ⟨Meets.at (pre := R) (Φ := F) m61, List.forall_mem_cons.2 ⟨Meets.at (pre := R) (Φ := F) m18, List.forall_mem_cons.2 ⟨Meets.at (pre := R) (Φ := F) m62, (fun _ h => nomatch h)⟩⟩⟩⟩⟩)) (loops_n 0 lk31_0 fun k hk => by omega) L31_0 (fun ρ => ((ρ.getD 3 default).int - (ρ.getD 4 default).int).toNat) le31_0 fun ρ _ hq => ?_
  obtain ⟨v, M, j, rfl, hj, hm⟩ : prV3 ρ := hq
  rw [maxLen_val] at hm
  by_cases hlt : j < M.length
  · have hcf := cfOv (f := 59) (.inl rfl) (M.take j) (M.getD j z4)
    rw [ov_take (by omega)] at hcf
    simp (disch := omega) only [rt31_0, VT.ok, Nd.holds, X.outs, X.ds, X.d, Op1.ev, Op2.ev, takeD_zero, takeD_cons, List.cons_append, List.nil_append, List.getD_cons_zero, List.getD_cons_succ, D.int_i, D.bool_b, D.lst_l, Int.toNat_natCast, List.length_map, implies_true, true_and, F25, R25, ↓reduceIte, dle_t, dlt_t, w64', rowQz, encQ, Int.toNat_zero, List.drop_zero, takeQ, hcf.2]
    refine ⟨fun _ => hcf.1, ?_⟩
    show if ovN M j = true then _ else _
    cases hb : ovN M j
    · simp only [Bool.false_eq_true, if_false]
      refine round_next ⟨⟨v, M, j + 1, rfl, by omega, hm⟩, ?_, ?_⟩
      · show ((M.length : Int) - ((j + 1 : Nat) : Int)).toNat < ((M.length : Int) - (j : Int)).toNat
        omega
      · show lpV3 [.l (M.map encQ), v, .l (M.map encQ), .i (M.length : Int), .i ((j + 1 : Nat) : Int)] = lpV3 [.l (M.map encQ), v, .l (M.map encQ), .i (M.length : Int), .i (j : Int)]
        simp only [lpV3, map_decQ, List.length_map, scB, Int.toNat_natCast]
        exact scan_next hlt hb
    · simp only [if_true]
      refine round_exit (by omega) ?_
      show lpV3 [.l (M.map encQ), v, .l (M.map encQ), .i (M.length : Int), .i (j : Int)] = _
      simp only [lpV3, map_decQ, List.length_map, scB, Int.toNat_natCast]
      exact scan_hit hlt hb
  · have hj' : j = M.length := by omega
    subst hj'
    simp (disch := omega) only [rt31_0, VT.ok, X.ds, X.d, Op2.ev, List.getD_cons_zero, List.getD_cons_succ, D.int_i, D.bool_b, Bool.false_eq_true, ↓reduceIte, dlt_f]
    refine round_exit (by omega) ?_
    show lpV3 [.l (M.map encQ), v, .l (M.map encQ), .i (M.length : Int), .i (M.length : Int)] = _
    simp only [lpV3, map_decQ, List.length_map, scB, Int.toNat_natCast]
    exact scan_end
theorem loopM31_2 : LoopMeets Try.prog F (R L31_2.key) L31_2 lb31_2 := by
  refine loop_meets (pre := R) mixed (sgAt_all (P := Try.prog) (pre := R) (Φ := F) (l := sg31) (List.forall_mem_cons.2 ⟨Meets.at (pre := R) (Φ := F) m25, List.forall_mem_cons.2 ⟨Meets.at (pre := R) (Φ := F) m60, List.forall_mem_cons.2 ⟨Meets.at (pre := R) (Φ := F) m61, List.forall_mem_cons.2 ⟨Meets.at (pre := R) (Φ := F) m18, List.forall_mem_cons.2 ⟨Meets.at (pre := R) (Φ := F) m62, (fun _ h => nomatch h)⟩⟩⟩⟩⟩)) (loops_n 0 lk31_2 fun k hk => by omega) L31_2 (fun ρ => ((ρ.getD 3 default).int - (ρ.getD 4 default).int).toNat) le31_2 fun ρ _ hq => ?_
  obtain ⟨v, l, M, q, j, rfl, hj, hm⟩ : prMn ρ := hq
  by_cases hlt : j < M.length
  · simp (disch := omega) only [rt31_2, VT.ok, Nd.holds, X.outs, X.ds, X.d, Op1.ev, Op2.ev, takeD_zero, takeD_cons, List.cons_append, List.nil_append, List.getD_cons_zero, List.getD_cons_succ, D.int_i, D.bool_b, D.lst_l, ite_b, ite_and, Int.toNat_natCast, List.length_map, implies_true, true_and, F61, R61, F18, R18, ↓reduceIte, dle_t, dlt_t, w64', rowQz, encQ, ciN_eq, fn18_eq]
    show if (!l.contains j && ovQ (M.getD j z4) q) = true then _ else _
    cases hb : (!l.contains j && ovQ (M.getD j z4) q)
    · simp only [Bool.false_eq_true, if_false]
      refine round_next ⟨⟨v, l, M, q, j + 1, rfl, by omega, hm⟩, ?_, ?_⟩
      · show ((M.length : Int) - ((j + 1 : Nat) : Int)).toNat < ((M.length : Int) - (j : Int)).toNat
        omega
      · show lpMn [v, .l (l.map encN), .l (M.map encQ), .i (M.length : Int), .i ((j + 1 : Nat) : Int), .i q.1, .i q.2.1, .i q.2.2.1, .i q.2.2.2] = lpMn [v, .l (l.map encN), .l (M.map encQ), .i (M.length : Int), .i (j : Int), .i q.1, .i q.2.1, .i q.2.2.1, .i q.2.2.2]
        simp only [lpMn, map_decQ, map_decN, List.length_map, scB, Int.toNat_natCast]
        exact scan_next hlt hb
    · simp only [if_true]
      refine round_exit (by omega) ?_
      show lpMn [v, .l (l.map encN), .l (M.map encQ), .i (M.length : Int), .i (j : Int), .i q.1, .i q.2.1, .i q.2.2.1, .i q.2.2.2] = _
      simp only [lpMn, map_decQ, map_decN, List.length_map, scB, Int.toNat_natCast]
      exact scan_hit hlt hb
  · have hj' : j = M.length := by omega
    subst hj'
    simp (disch := omega) only [rt31_2, VT.ok, X.ds, X.d, Op2.ev, List.getD_cons_zero, List.getD_cons_succ, D.int_i, D.bool_b, Bool.false_eq_true, ↓reduceIte, dlt_f]
    refine round_exit (by omega) ?_
    show lpMn [v, .l (l.map encN), .l (M.map encQ), .i (M.length : Int), .i (M.length : Int), .i q.1, .i q.2.1, .i q.2.2.1, .i q.2.2.2] = _
    simp only [lpMn, map_decQ, map_decN, List.length_map, scB, Int.toNat_natCast]
    exact scan_end
theorem loopM31_3 : LoopMeets Try.prog F (R L31_3.key) L31_3 lb31_3 := by
  refine loop_meets (pre := R) mixed (sgAt_all (P := Try.prog) (pre := R) (Φ := F) (l := sg31) (List.forall_mem_cons.2 ⟨Meets.at (pre := R) (Φ := F) m25, List.forall_mem_cons.2 ⟨Meets.at (pre := R) (Φ := F) m60, List.forall_mem_cons.2 ⟨Meets.at (pre := R) (Φ := F) m61, List.forall_mem_cons.2 ⟨Meets.at (pre := R) (Φ := F) m18, List.forall_mem_cons.2 ⟨Meets.at (pre := R) (Φ := F) m62, (fun _ h => nomatch h)⟩⟩⟩⟩⟩)) (loops_n 0 lk31_3 fun k hk => by omega) L31_3 (fun ρ => ((ρ.getD 3 default).int - (ρ.getD 4 default).int).toNat) le31_3 fun ρ _ hq => ?_
  obtain ⟨v, c, K, q, g, j, rfl, hj, hK, hc, hv⟩ : prMc ρ := hq
  obtain ⟨_, v16⟩ := valid_len hv
  by_cases hlt : j < K.length
  · have h1 : conP [.s g.nm, .b g.dr, .l g.N, .l g.E, .l g.C, .i (j : Int), .i (c : Int)] := ⟨g, _, c, rfl, hc, hv⟩
    have h2 : conP [.s g.nm, .b g.dr, .l g.N, .l g.E, .l g.C, .i (c : Int), .i (j : Int)] := ⟨g, _, j, rfl, by omega, hv⟩
    simp (disch := omega) only [rt31_3, VT.ok, Nd.holds, X.outs, X.ds, X.d, Op1.ev, Op2.ev, takeD_zero, takeD_cons, List.cons_append, List.nil_append, List.getD_cons_zero, List.getD_cons_succ, D.int_i, D.bool_b, D.lst_l, ite_b, ite_and, Int.toNat_natCast, List.length_map, implies_true, true_and, F18, R18, F62, R62, ↓reduceIte, dle_t, dlt_t, w64', rowQz, encQ, conD_eq, fn18_eq]
    refine ⟨fun _ => h1, fun _ => h2, ?_⟩
    show if ((!(around g.C (cP g.C c)).contains (j : Int) && !(around g.C (cP g.C j)).contains (c : Int)) && ovQ (K.getD j z4) q) = true then _ else _
    cases hb : ((!(around g.C (cP g.C c)).contains (j : Int) && !(around g.C (cP g.C j)).contains (c : Int)) && ovQ (K.getD j z4) q)
    · simp only [Bool.false_eq_true, if_false]
      refine round_next ⟨⟨v, c, K, q, g, j + 1, rfl, by omega, hK, hc, hv⟩, ?_, ?_⟩
      · show ((K.length : Int) - ((j + 1 : Nat) : Int)).toNat < ((K.length : Int) - (j : Int)).toNat
        omega
      · show lpMc [v, .i (c : Int), .l (K.map encQ), .i (K.length : Int), .i ((j + 1 : Nat) : Int), .s g.nm, .b g.dr, .l g.N, .l g.E, .l g.C, .i q.1, .i q.2.1, .i q.2.2.1, .i q.2.2.2] = lpMc [v, .i (c : Int), .l (K.map encQ), .i (K.length : Int), .i (j : Int), .s g.nm, .b g.dr, .l g.N, .l g.E, .l g.C, .i q.1, .i q.2.1, .i q.2.2.1, .i q.2.2.2]
        simp only [lpMc, map_decQ, List.length_map, scB, Int.toNat_natCast]
        exact scan_next hlt hb
    · simp only [if_true]
      refine round_exit (by omega) ?_
      show lpMc [v, .i (c : Int), .l (K.map encQ), .i (K.length : Int), .i (j : Int), .s g.nm, .b g.dr, .l g.N, .l g.E, .l g.C, .i q.1, .i q.2.1, .i q.2.2.1, .i q.2.2.2] = _
      simp only [lpMc, map_decQ, List.length_map, scB, Int.toNat_natCast]
      exact scan_hit hlt hb
  · have hj' : j = K.length := by omega
    subst hj'
    simp (disch := omega) only [rt31_3, VT.ok, X.ds, X.d, Op2.ev, List.getD_cons_zero, List.getD_cons_succ, D.int_i, D.bool_b, Bool.false_eq_true, ↓reduceIte, dlt_f]
    refine round_exit (by omega) ?_
    show lpMc [v, .i (c : Int), .l (K.map encQ), .i (K.length : Int), .i (K.length : Int), .s g.nm, .b g.dr, .l g.N, .l g.E, .l g.C, .i q.1, .i q.2.1, .i q.2.2.1, .i q.2.2.2] = _
    simp only [lpMc, map_decQ, List.length_map, scB, Int.toNat_natCast]
    exact scan_end
theorem lies_lt {C : List (List D)} {c d : Nat} (hok : okC C C.length) (hc : c < C.length) (hd : d < c) : lies C c d = (around C (cP C c)).contains (d : Int) := by
  unfold lies
  rw [ar_at hok (by omega) (by omega), List.contains_cons, show ((d : Int) == (c : Int)) = false from beq_f (by omega), Bool.false_or, Int.toNat_natCast]
theorem lies_gt {C : List (List D)} {c d : Nat} (hok : okC C C.length) (hc : c < C.length) (hd : d < c) : lies C d c = (around C (cP C d)).contains (c : Int) := by
  unfold lies
  rw [ar_at hok (by omega) (by omega), List.contains_cons, show ((c : Int) == (d : Int)) = false from beq_f (by omega), Bool.false_or, Int.toNat_natCast]
theorem getD_takeQ {l : List Bx} {i j : Nat} (h : i < j) : (l.take j).getD i z4 = l.getD i z4 := by
  simp only [List.getD]
  rw [List.getElem?_take, if_pos h]
theorem mixC_take {g : Gd} (hv : validE g = 0) {K : List Bx} {j : Nat} (hK : K.length = g.C.length) (hj : j < K.length) :
    anyN (fun k => (!(around g.C (cP g.C j)).contains (k : Int) && !(around g.C (cP g.C k)).contains (j : Int)) && ovQ ((K.take j).getD k z4) (K.getD j z4)) (K.take j).length = anyN (mixC g.C K j) j := by
  rw [List.length_take, Nat.min_eq_left (by omega)]
  obtain ⟨_, _, v3, _⟩ := valid_okV hv
  refine anyN_congr fun k hk => ?_
  simp only [mixC]
  rw [lies_lt v3 (by omega) hk, lies_gt v3 (by omega) hk, getD_takeQ hk]
theorem mixN_mem {g : Gd} {M K : List Bx} {j : Nat} (hM : M.length = g.N.length) : anyN (fun w => !(memL g j).contains w && ovQ (M.getD w z4) (K.getD j z4)) M.length = anyN (mixN g.N g.C M K j) M.length := by
  refine anyN_congr fun k hk => ?_
  simp only [mixN, memL]
  rw [pick_has (by omega)]
theorem lpMn_eq (v : D) (l : List Nat) (M : List Bx) (q : Bx) : lpMn [v, .l (l.map encN), .l (M.map encQ), .i (M.length : Int), .i 0, .i q.1, .i q.2.1, .i q.2.2.1, .i q.2.2.2] = scanN (fun w => !l.contains w && ovQ (M.getD w z4) q) (fun j => [.i 0, .b false, .i (j : Int)]) (fun j => [.i 1, v, .i (j : Int)]) M.length 0 := by
  simp only [lpMn, map_decQ, map_decN, List.length_map, scB, Int.toNat_zero, Nat.sub_zero]
theorem lpMc_eq (v : D) (c : Nat) (K : List Bx) (q : Bx) (g : Gd) (n : Int) : lpMc [v, .i (c : Int), .l (K.map encQ), .i n, .i 0, .s g.nm, .b g.dr, .l g.N, .l g.E, .l g.C, .i q.1, .i q.2.1, .i q.2.2.1, .i q.2.2.2] = scanN (fun k => (!(around g.C (cP g.C c)).contains (k : Int) && !(around g.C (cP g.C k)).contains (c : Int)) && ovQ (K.getD k z4) q) (fun j => [.i 0, .b false, .i (j : Int)]) (fun j => [.i 1, v, .i (j : Int)]) K.length 0 := by
  simp only [lpMc, map_decQ, List.length_map, scB, Int.toNat_zero, Nat.sub_zero, Int.toNat_natCast]
theorem lpMx_eq (v : D) (M K : List Bx) (g : Gd) (j : Nat) : lpMx [.l (M.map encQ), .l (K.map encQ), v, .l (K.map encQ), .i (K.length : Int), .i (j : Int), .s g.nm, .b g.dr, .l g.N, .l g.E, .l g.C] = scanN (mixAny g.N g.C M K) (fun j => [.i 0, .b false, .i (j : Int)]) (fun j => [.i 1, v, .i (j : Int)]) (K.length - j) j := by
  simp only [lpMx, map_decQ, List.length_map, scB, Int.toNat_natCast]
theorem loopM31_1 : LoopMeets Try.prog F (R L31_1.key) L31_1 lb31_1 := by
  refine loop_meets (pre := R) mixed (sgAt_all (P := Try.prog) (pre := R) (Φ := F) (l := sg31) (List.forall_mem_cons.2 ⟨Meets.at (pre := R) (Φ := F) m25, List.forall_mem_cons.2 ⟨Meets.at (pre := R) (Φ := F) m60, List.forall_mem_cons.2 ⟨Meets.at (pre := R) (Φ := F) m61, List.forall_mem_cons.2 ⟨Meets.at (pre := R) (Φ := F) m18, List.forall_mem_cons.2 ⟨Meets.at (pre := R) (Φ := F) m62, (fun _ h => nomatch h)⟩⟩⟩⟩⟩)) (loops_n 2 lk31_1 fun k hk => match k, hk with | 0, _ => by rw [li31_1_0]; exact loop_this lf31_2 loopM31_2 | 1, _ => by rw [li31_1_1]; exact loop_this lf31_3 loopM31_3) L31_1 (fun ρ => ((ρ.getD 4 default).int - (ρ.getD 5 default).int).toNat) le31_1 fun ρ _ hq => ?_
  obtain ⟨v, M, K, g, j, rfl, hj, hv, hM, hK⟩ : prMx ρ := hq
  obtain ⟨v1, v2⟩ := valid_len hv
  by_cases hlt : j < K.length
  · have hhit : mixAny g.N g.C M K j = true → RoundOk F (R L31_1.key) (fun ρ => ((ρ.getD 4 default).int - (ρ.getD 5 default).int).toNat) L31_1 [.l (M.map encQ), .l (K.map encQ), v, .l (K.map encQ), .i (K.length : Int), .i (j : Int), .s g.nm, .b g.dr, .l g.N, .l g.E, .l g.C] [.i 0, .b false, .i (j : Int)] := fun h => by
      refine round_exit (by omega) ?_
      rw [show F L31_1.key = lpMx from rfl, lpMx_eq]
      exact scan_hit hlt h
    have hmiss : mixAny g.N g.C M K j = false → RoundOk F (R L31_1.key) (fun ρ => ((ρ.getD 4 default).int - (ρ.getD 5 default).int).toNat) L31_1 [.l (M.map encQ), .l (K.map encQ), v, .l (K.map encQ), .i (K.length : Int), .i (j : Int), .s g.nm, .b g.dr, .l g.N, .l g.E, .l g.C] [.i (-1), v, .i ((j + 1 : Nat) : Int)] := fun h => by
      refine round_next ⟨⟨v, M, K, g, j + 1, rfl, by omega, hv, hM, hK⟩, ?_, ?_⟩
      · show ((K.length : Int) - ((j + 1 : Nat) : Int)).toNat < ((K.length : Int) - (j : Int)).toNat
        omega
      · show lpMx [.l (M.map encQ), .l (K.map encQ), v, .l (K.map encQ), .i (K.length : Int), .i ((j + 1 : Nat) : Int), .s g.nm, .b g.dr, .l g.N, .l g.E, .l g.C] = lpMx [.l (M.map encQ), .l (K.map encQ), v, .l (K.map encQ), .i (K.length : Int), .i (j : Int), .s g.nm, .b g.dr, .l g.N, .l g.E, .l g.C]
        rw [lpMx_eq, lpMx_eq]
        exact scan_next hlt h
    have hmem := memD_eq (g := g) hv (c := j) (by omega)
    have hp1 : ∀ v : D, prMn [v, .l ((memL g j).map encN), .l (M.map encQ), .i (M.length : Int), .i 0, .i (K.getD j z4).1, .i (K.getD j z4).2.1, .i (K.getD j z4).2.2.1, .i (K.getD j z4).2.2.2] := fun v => ⟨v, memL g j, M, K.getD j z4, 0, rfl, by omega, by omega⟩
    have hlen : (K.take j).length = j := by rw [List.length_take]; omega
    have hp2 : ∀ v : D, prMc [v, .i (j : Int), .l ((K.take j).map encQ), .i ((K.take j).length : Int), .i 0, .s g.nm, .b g.dr, .l g.N, .l g.E, .l g.C, .i (K.getD j z4).1, .i (K.getD j z4).2.1, .i (K.getD j z4).2.2.1, .i (K.getD j z4).2.2.2] := fun v => ⟨v, j, K.take j, K.getD j z4, g, 0, rfl, by omega, hlen, by omega, hv⟩
    simp (disch := omega) only [rt31_1, VT.ok, Nd.holds, X.outs, X.ds, X.d, Op1.ev, Op2.ev, takeD_zero, takeD_cons, List.cons_append, List.nil_append, List.getD_cons_zero, List.getD_cons_succ, D.int_i, D.bool_b, D.lst_l, Int.toNat_natCast, List.length_map, implies_true, true_and, F60, R60, F13101, R13101, F13102, R13102, ↓reduceIte, dle_t, dlt_t, w64', rowQz, encQ, hmem, lpMn_eq, Int.toNat_zero, List.drop_zero, takeQ]
    refine ⟨fun _ => hp1 _, ?_⟩
    rcases scan_any (p := fun w => !(memL g j).contains w && ovQ (M.getD w z4) (K.getD j z4)) (hit := fun j => [D.i 0, .b false, .i (j : Int)]) (miss := fun j => [D.i 1, v, .i (j : Int)]) M.length with ⟨h1, k, _, _, _, h2⟩ | ⟨h1, h2⟩
    · rw [mixN_mem hM] at h1
      rw [h2]
      simp only [takeD_zero, takeD_cons, List.cons_append, List.nil_append, List.getD_cons_zero, List.getD_cons_succ, D.int_i, if_true, show ((0 : Int) == 0) = true from rfl]
      exact hhit (by rw [mixAny, h1]; rfl)
    · rw [mixN_mem hM] at h1
      rw [h2]
      simp only [takeD_zero, takeD_cons, List.cons_append, List.nil_append, List.getD_cons_zero, List.getD_cons_succ, D.int_i, Bool.false_eq_true, if_false, show ((1 : Int) == 0) = false from rfl, lpMc_eq]
      refine ⟨fun _ => hp2 _, ?_⟩
      rcases scan_any (p := fun k => (!(around g.C (cP g.C j)).contains (k : Int) && !(around g.C (cP g.C k)).contains (j : Int)) && ovQ ((K.take j).getD k z4) (K.getD j z4)) (hit := fun j => [D.i 0, .b false, .i (j : Int)]) (miss := fun j => [D.i 1, v, .i (j : Int)]) (K.take j).length with ⟨h3, k, _, _, _, h4⟩ | ⟨h3, h4⟩
      · rw [mixC_take hv hK hlt] at h3
        rw [h4]
        simp only [takeD_zero, takeD_cons, List.getD_cons_zero, List.getD_cons_succ, D.int_i, if_true, show ((0 : Int) == 0) = true from rfl]
        exact hhit (by rw [mixAny, h3, Bool.or_true])
      · rw [mixC_take hv hK hlt] at h3
        rw [h4]
        simp only [takeD_zero, takeD_cons, List.getD_cons_zero, List.getD_cons_succ, D.int_i, Bool.false_eq_true, if_false, show ((1 : Int) == 0) = false from rfl]
        exact hmiss (by rw [mixAny, h1, h3]; rfl)
  · have hj : j = K.length := by omega
    subst hj
    simp (disch := omega) only [rt31_1, VT.ok, X.ds, X.d, Op2.ev, List.getD_cons_zero, List.getD_cons_succ, D.int_i, D.bool_b, Bool.false_eq_true, ↓reduceIte, dlt_f]
    refine round_exit (by omega) ?_
    rw [show F L31_1.key = lpMx from rfl, lpMx_eq]
    exact scan_end
theorem apD_eq (g : Gd) (M K : List Bx) : apD [.s g.nm, .b g.dr, .l g.N, .l g.E, .l g.C, .l (M.map encQ), .l (K.map encQ)] = [.b (!overB g M K)] := by
  show [D.b (!overB g ((M.map encQ).map decQ) ((K.map encQ).map decQ))] = _
  rw [map_decQ, map_decQ]
theorem m31 : Meets Try.prog 31 S31 (R 31) (F 31) := by
  refine meets_of_vt (pre := R) (Φ := F) mixed (sgAt_all (P := Try.prog) (pre := R) (Φ := F) (l := sg31) (List.forall_mem_cons.2 ⟨Meets.at (pre := R) (Φ := F) m25, List.forall_mem_cons.2 ⟨Meets.at (pre := R) (Φ := F) m60, List.forall_mem_cons.2 ⟨Meets.at (pre := R) (Φ := F) m61, List.forall_mem_cons.2 ⟨Meets.at (pre := R) (Φ := F) m18, List.forall_mem_cons.2 ⟨Meets.at (pre := R) (Φ := F) m62, (fun _ h => nomatch h)⟩⟩⟩⟩⟩)) Try.func31 b31 n31 (loops_n 4 k31 fun k hk => match k, hk with | 0, _ => loop_this lf31_0 loopM31_0 | 1, _ => loop_this lf31_1 loopM31_1 | 2, _ => loop_this lf31_2 loopM31_2 | 3, _ => loop_this lf31_3 loopM31_3) e31 fun ds _ hq => ?_
  obtain ⟨g, M, K, rfl, hv, hM, hK⟩ : apP ds := hq
  obtain ⟨v1, v2⟩ := valid_len hv
  have e1 : lpV3 [.l (M.map encQ), .b false, .l (M.map encQ), .i (M.length : Int), .i 0] = scanN (ovN M) (fun j => [.i 0, .b false, .i (j : Int)]) (fun j => [.i 1, .b false, .i (j : Int)]) M.length 0 := by
    simp only [lpV3, map_decQ, List.length_map, scB, Int.toNat_zero, Nat.sub_zero]
  have e2 := lpMx_eq (.b false) M K g 0
  have p1 : prV3 [.l (M.map encQ), .b false, .l (M.map encQ), .i (M.length : Int), .i 0] := ⟨_, M, 0, rfl, by omega, by rw [maxLen_val]; omega⟩
  have p2 : prMx [.l (M.map encQ), .l (K.map encQ), .b false, .l (K.map encQ), .i (K.length : Int), .i 0, .s g.nm, .b g.dr, .l g.N, .l g.E, .l g.C] := ⟨_, M, K, g, 0, rfl, by omega, hv, hM, hK⟩
  simp only [Int.natCast_zero, Nat.sub_zero] at e2
  simp only [vt31, VT.ok, Nd.holds, X.outs, X.ds, X.d, Op1.ev, Op2.ev, List.cons_append, List.nil_append, List.getD_cons_zero, List.getD_cons_succ, D.int_i, D.bool_b, D.lst_l, List.length_map, F13100, R13100, F13103, R13103, F31, e1, apD_eq]
  refine ⟨fun _ => p1, ?_⟩
  rcases scan_any (p := ovN M) (hit := fun j => [D.i 0, .b false, .i (j : Int)]) (miss := fun j => [D.i 1, .b false, .i (j : Int)]) M.length with ⟨k1, j, _, _, _, k2⟩ | ⟨k1, k2⟩
  · rw [k2, overB, k1]; rfl
  · rw [k2]
    simp only [takeD_zero, takeD_cons, List.cons_append, List.nil_append, List.getD_cons_zero, List.getD_cons_succ, D.int_i, Bool.false_eq_true, if_false, show ((1 : Int) == 0) = false from rfl, e2]
    refine ⟨fun _ => p2, ?_⟩
    rcases scan_any (p := mixAny g.N g.C M K) (hit := fun j => [D.i 0, .b false, .i (j : Int)]) (miss := fun j => [D.i 1, .b false, .i (j : Int)]) K.length with ⟨k3, j, _, _, _, k4⟩ | ⟨k3, k4⟩
    · rw [k4, overB, k1, k3]; rfl
    · rw [k4, overB, k1, k3]; rfl
theorem badL_ok {B : List Bx} (h : badL B = false) : ∀ b ∈ B, bxQ b = true := fun b hb => by
  obtain ⟨i, hi, rfl⟩ := List.getElem_of_mem hb
  have := anyN_false.1 h i hi
  simpa [List.getD, hi] using this
theorem loopM11_0 : LoopMeets Try.prog F (R L11_0.key) L11_0 lb11_0 := by
  refine loop_meets (pre := R) mixed (sgAt_all (P := Try.prog) (pre := R) (Φ := F) (l := sg11) (List.forall_mem_cons.2 ⟨Meets.at (pre := R) (Φ := F) m26, List.forall_mem_cons.2 ⟨Meets.at (pre := R) (Φ := F) m28, List.forall_mem_cons.2 ⟨Meets.at (pre := R) (Φ := F) m25, List.forall_mem_cons.2 ⟨Meets.at (pre := R) (Φ := F) m29, List.forall_mem_cons.2 ⟨Meets.at (pre := R) (Φ := F) m30, List.forall_mem_cons.2 ⟨Meets.at (pre := R) (Φ := F) m31, (fun _ h => nomatch h)⟩⟩⟩⟩⟩⟩)) (loops_n 0 lk11_0 fun k hk => by omega) L11_0 (fun ρ => ((ρ.getD 2 default).int - (ρ.getD 3 default).int).toNat) le11_0 fun ρ _ hq => ?_
  obtain ⟨v, M, g, j, rfl, hj, hN, h64, hs⟩ : prSs ρ := hq
  by_cases hlt : j < M.length
  · have he := fnE_eq (M.getD j z4) (hs _ (getD_mem z4 hlt))
    simp (disch := omega) only [rt11_0, VT.ok, Nd.holds, X.outs, X.ds, X.d, Op1.ev, Op2.ev, takeD_zero, takeD_cons, List.cons_append, List.nil_append, List.getD_cons_zero, List.getD_cons_succ, D.int_i, D.bool_b, D.lst_l, ite_b, ite_and, Int.toNat_natCast, List.length_map, implies_true, true_and, F29, R29, ↓reduceIte, dle_t, dlt_t, w64', rowQz, encQ, he, Bool.not_and]
    show if badS g.N M j = true then _ else _
    cases hb : badS g.N M j
    · simp only [Bool.false_eq_true, if_false]
      refine round_next ⟨⟨v, M, g, j + 1, rfl, by omega, hN, h64, hs⟩, ?_, ?_⟩
      · show ((M.length : Int) - ((j + 1 : Nat) : Int)).toNat < ((M.length : Int) - (j : Int)).toNat
        omega
      · show lpSs [v, .l (M.map encQ), .i (M.length : Int), .i ((j + 1 : Nat) : Int), .s g.nm, .b g.dr, .l g.N, .l g.E, .l g.C] = lpSs [v, .l (M.map encQ), .i (M.length : Int), .i (j : Int), .s g.nm, .b g.dr, .l g.N, .l g.E, .l g.C]
        simp only [lpSs, map_decQ, List.length_map, scB, Int.toNat_natCast]
        exact scan_next hlt hb
    · simp only [if_true]
      refine round_exit (by omega) ?_
      show lpSs [v, .l (M.map encQ), .i (M.length : Int), .i (j : Int), .s g.nm, .b g.dr, .l g.N, .l g.E, .l g.C] = _
      simp only [lpSs, map_decQ, List.length_map, scB, Int.toNat_natCast]
      exact scan_hit hlt hb
  · have hj' : j = M.length := by omega
    subst hj'
    simp (disch := omega) only [rt11_0, VT.ok, X.ds, X.d, Op2.ev, List.getD_cons_zero, List.getD_cons_succ, D.int_i, D.bool_b, Bool.false_eq_true, ↓reduceIte, dlt_f]
    refine round_exit (by omega) ?_
    show lpSs [v, .l (M.map encQ), .i (M.length : Int), .i (M.length : Int), .s g.nm, .b g.dr, .l g.N, .l g.E, .l g.C] = _
    simp only [lpSs, map_decQ, List.length_map, scB, Int.toNat_natCast]
    exact scan_end
theorem chD_eq (g : Gd) (o : Od) (M K : List Bx) : chD [.s g.nm, .b g.dr, .l g.N, .l g.E, .l g.C, .i o.md, .i o.ns, .i o.rs, .i o.m, .i o.rd, .l (M.map encQ), .l (K.map encQ)] = [.i (chkE g o M K)] := by
  show [D.i (chkE g o ((M.map encQ).map decQ) ((K.map encQ).map decQ))] = _
  rw [map_decQ, map_decQ]
theorem lpSs_eq (M : List Bx) (g : Gd) : lpSs [.i 0, .l (M.map encQ), .i (M.length : Int), .i 0, .s g.nm, .b g.dr, .l g.N, .l g.E, .l g.C] = scanN (badS g.N M) (fun j => [.i 0, .i 13, .i (j : Int)]) (fun j => [.i 1, .i 0, .i (j : Int)]) M.length 0 := by
  simp only [lpSs, map_decQ, List.length_map, scB, Int.toNat_zero, Nat.sub_zero]
theorem chkE_err {g : Gd} {o : Od} {M K : List Bx} (h : ¬ validE g = 0) : chkE g o M K = validE g := by rw [chkE, if_neg h]
theorem lenB {a b : Nat} : (((a : Int) == (b : Int))) = (a == b) := by
  rw [Bool.eq_iff_iff]; simp only [beq_iff_eq]; omega
theorem chkE_len {g : Gd} {o : Od} {M K : List Bx} (h1 : validE g = 0) (h2 : o.ok = true) (h : ((!(M.length == g.N.length) || !(K.length == g.C.length)) || (badL M || badL K)) = true) : chkE g o M K = 1 := by
  rw [chkE, if_pos h1, if_pos h2, if_pos h]
theorem m11 : Meets Try.prog 11 S11 (R 11) (F 11) := by
  refine meets_of_vt (pre := R) (Φ := F) mixed (sgAt_all (P := Try.prog) (pre := R) (Φ := F) (l := sg11) (List.forall_mem_cons.2 ⟨Meets.at (pre := R) (Φ := F) m26, List.forall_mem_cons.2 ⟨Meets.at (pre := R) (Φ := F) m28, List.forall_mem_cons.2 ⟨Meets.at (pre := R) (Φ := F) m25, List.forall_mem_cons.2 ⟨Meets.at (pre := R) (Φ := F) m29, List.forall_mem_cons.2 ⟨Meets.at (pre := R) (Φ := F) m30, List.forall_mem_cons.2 ⟨Meets.at (pre := R) (Φ := F) m31, (fun _ h => nomatch h)⟩⟩⟩⟩⟩⟩)) Try.func11 b11 n11 (loops_n 1 k11 fun k hk => match k, hk with | 0, _ => loop_this lf11_0 loopM11_0) e11 fun ds hf _ => ?_
  obtain ⟨g, o, M, ds', rfl, h0, hm, _⟩ := fitsGO hf.flat
  obtain ⟨x, rfl, hx⟩ := fits1 h0
  obtain ⟨K, rfl, hk, _⟩ := slQ hx
  have hv : validD [.s g.nm, .b g.dr, .l g.N, .l g.E, .l g.C] = [.i (validE g)] := rfl
  have ho := fn28_eq o.md o.ns o.rs o.m o.rd
  obtain ⟨cM1, cM2⟩ := cfBad (f := 27) (.inr rfl) M
  obtain ⟨cK1, cK2⟩ := cfBad (f := 27) (.inr rfl) K
  simp only [vt11, VT.ok, Nd.holds, X.outs, X.ds, X.d, Op1.ev, Op2.ev, takeD_zero, takeD_cons, List.cons_append, List.nil_append, List.getD_cons_zero, List.getD_cons_succ, D.int_i, D.bool_b, D.lst_l, List.length_map, implies_true, true_and, F26, R26, F28, R28, F25, R25, F11100, R11100, F30, R30, F31, R31, F11, hv, ho, chD_eq, cM2, cK2, lenB]
  by_cases h1 : validE g = 0
  · obtain ⟨v1, v2⟩ := valid_len h1
    obtain ⟨_, _, v3, v4⟩ := valid_okV h1
    have hb : (!(validE g == 0)) = false := by simp [h1]
    simp only [hb, Bool.false_eq_true, if_false]
    by_cases h2 : o.ok = true
    · have h2' := Od.ok_iff.1 h2
      simp only [show (Od.ok ⟨o.md, o.ns, o.rs, o.m, o.rd⟩) = true from h2, Bool.not_true, Bool.false_eq_true, if_false]
      by_cases h3 : (M.length == g.N.length) = true
      · by_cases h4 : (K.length == g.C.length) = true
        · simp only [h3, h4, Bool.not_true, Bool.false_eq_true, if_false]
          refine ⟨fun _ => cM1, ?_⟩
          cases h5 : badL M
          · simp only [Bool.false_eq_true, if_false]
            refine ⟨fun _ => cK1, ?_⟩
            cases h6 : badL K
            · have hM : M.length = g.N.length := by simpa using h3
              have hK : K.length = g.C.length := by simpa using h4
              have hE : chkE g o M K = if anyN (badS g.N M) M.length = true then 13 else if withinB g o.m M K = true then (if overB g M K = true then 14 else 0) else 3 := by
                rw [chkE, if_pos h1, if_pos h2, if_neg (by rw [h3, h4, h5, h6]; decide)]
              have p1 : prSs [.i 0, .l (M.map encQ), .i (M.length : Int), .i 0, .s g.nm, .b g.dr, .l g.N, .l g.E, .l g.C] := ⟨.i 0, M, g, 0, rfl, by omega, by omega, by omega, fun q hq => smQ_of (badL_ok h5 q hq)⟩
              have p2 : withP [.s g.nm, .b g.dr, .l g.N, .l g.E, .l g.C, .i o.m, .l (M.map encQ), .l (K.map encQ)] := ⟨g, o.m, M, K, rfl, by omega, by omega, by omega, by omega, fun v hv => by have := v4 v hv; rw [hK]; exact this, fun c hc => ⟨(v3 c hc).1, Int.lt_trans (v3 c hc).2 (by omega)⟩, by omega, by omega⟩
              have p3 : apP [.s g.nm, .b g.dr, .l g.N, .l g.E, .l g.C, .l (M.map encQ), .l (K.map encQ)] := ⟨g, M, K, rfl, h1, hM, hK⟩
              simp only [Bool.false_eq_true, if_false, lpSs_eq]
              refine ⟨fun _ => p1, ?_⟩
              rw [hE]
              rcases scan_any (p := badS g.N M) (hit := fun j => [D.i 0, .i 13, .i (j : Int)]) (miss := fun j => [D.i 1, .i 0, .i (j : Int)]) M.length with ⟨k1, j, _, _, _, k2⟩ | ⟨k1, k2⟩
              · rw [k2, if_pos k1]
                simp only [takeD_zero, takeD_cons, List.cons_append, List.nil_append, List.getD_cons_zero, List.getD_cons_succ, D.int_i, if_true, takeD1_0, show ((0 : Int) == 0) = true from rfl]
              · rw [k2, if_neg (c := anyN (badS g.N M) M.length = true) (by rw [k1]; decide)]
                simp only [takeD_zero, takeD_cons, List.cons_append, List.nil_append, List.getD_cons_zero, List.getD_cons_succ, D.int_i, D.bool_b, Bool.false_eq_true, if_false, show ((1 : Int) == 0) = false from rfl, withD_eq, apD_eq]
                refine ⟨fun _ => p2, ?_⟩
                cases h7 : withinB g o.m M K
                · simp only [Bool.not_false, if_true, Bool.false_eq_true, if_false]
                · simp only [Bool.not_true, Bool.false_eq_true, if_false, if_true]
                  refine ⟨fun _ => p3, ?_⟩
                  cases h8 : overB g M K <;> rfl
            · simp only [if_true]
              rw [chkE_len h1 h2 (by rw [h6]; simp)]
          · simp only [if_true]
            rw [chkE_len h1 h2 (by rw [h5]; simp)]
        · have h4' := Bool.eq_false_iff.2 h4
          simp only [h3, h4', Bool.not_true, Bool.not_false, Bool.false_eq_true, if_false, if_true]
          rw [chkE_len h1 h2 (by rw [h4']; simp)]
      · have h3' := Bool.eq_false_iff.2 h3
        simp only [h3', Bool.not_false, if_true]
        rw [chkE_len h1 h2 (by rw [h3']; simp)]
    · have h2' : Od.ok ⟨o.md, o.ns, o.rs, o.m, o.rd⟩ = false := Bool.eq_false_iff.2 h2
      simp only [h2', Bool.not_false, if_true]
      rw [chkE, if_pos h1, if_neg h2]
  · have hb : (!(validE g == 0)) = true := by simp [h1]
    rw [if_pos hb, chkE_err h1]
end Go.Proofs.Ytindllmeeckfcaa.rv
namespace Go.Proofs.Ytindllmeeckfcaa.rv
set_option maxRecDepth 10000
open Go.RV
theorem loopM37_0 : LoopMeets Try.prog F (R L37_0.key) L37_0 lb37_0 := by
  refine loop_meets (pre := R) mixed (sgAt_all (P := Try.prog) (pre := R) (Φ := F) (l := sg37) ((fun _ h => nomatch h))) (loops_n 0 lk37_0 fun k hk => by omega) L37_0 (fun ρ => (((ρ.getD 0 default).lst.length : Int) - (ρ.getD 3 default).int).toNat) le37_0 fun ρ _ hq => ?_
  obtain ⟨xs, ys, v, j, rfl, hj, hm, hl⟩ : prS4 ρ := hq
  rw [maxLen_val] at hm
  by_cases hlt : j < xs.length
  · simp (disch := omega) only [rt37_0, VT.ok, Nd.holds, X.ds, X.d, Op1.ev, Op2.ev, List.getD_cons_zero, List.getD_cons_succ, D.int_i, D.bool_b, D.lst_l, ite_b, ite_and, Int.toNat_natCast, implies_true, true_and, ↓reduceIte, dle_t, dlt_t, w64']
    show if (!same4 (el xs j) (el ys j)) = true then _ else _
    cases hb : (!same4 (el xs j) (el ys j))
    · simp only [Bool.false_eq_true, if_false]
      refine round_next ⟨⟨xs, ys, v, j + 1, rfl, by omega, hm, hl⟩, ?_, ?_⟩
      · show ((xs.length : Int) - ((j + 1 : Nat) : Int)).toNat < ((xs.length : Int) - (j : Int)).toNat
        omega
      · show lpS4 [.l xs, .l ys, v, .i ((j + 1 : Nat) : Int)] = lpS4 [.l xs, .l ys, v, .i (j : Int)]
        simp only [lpS4, scB, Int.toNat_natCast]
        exact scan_next hlt hb
    · simp only [if_true]
      refine round_exit (by omega) ?_
      show lpS4 [.l xs, .l ys, v, .i (j : Int)] = _
      simp only [lpS4, scB, Int.toNat_natCast]
      exact scan_hit hlt hb
  · have hj' : j = xs.length := by omega
    subst hj'
    simp (disch := omega) only [rt37_0, VT.ok, X.ds, X.d, Op1.ev, Op2.ev, List.getD_cons_zero, List.getD_cons_succ, D.int_i, D.bool_b, D.lst_l, Bool.false_eq_true, ↓reduceIte, dlt_f]
    refine round_exit (by omega) ?_
    show lpS4 [.l xs, .l ys, v, .i (xs.length : Int)] = _
    simp only [lpS4, scB, Int.toNat_natCast]
    exact scan_end
theorem sameLD_eq (xs ys : List (List D)) : sameLD [.l xs, .l ys] = [.b (eqR same4 xs ys)] := rfl
theorem lpS4_eq (xs ys : List (List D)) : lpS4 [.l xs, .l ys, .b false, .i 0] = scanN (fun j => !same4 (el xs j) (el ys j)) (fun j => [.i 0, .b false, .i (j : Int)]) (fun j => [.i 1, .b false, .i (j : Int)]) xs.length 0 := by
  simp only [lpS4, scB, Int.toNat_zero, Nat.sub_zero]
theorem m37 : Meets Try.prog 37 S37 (R 37) (F 37) := by
  refine meets_of_vt (pre := R) (Φ := F) mixed (sgAt_all (P := Try.prog) (pre := R) (Φ := F) (l := sg37) ((fun _ h => nomatch h))) Try.func37 b37 n37 (loops_n 1 k37 fun k hk => match k, hk with | 0, _ => loop_this lf37_0 loopM37_0) e37 fun ds hf _ => ?_
  obtain ⟨x, y, rfl, hx, hy⟩ := fits2 hf.flat
  obtain ⟨xs, rfl, hm, _⟩ := wf_sl hx
  obtain ⟨ys, rfl, hm', _⟩ := wf_sl hy
  by_cases hl : ys.length = xs.length
  · have hpre : prS4 [.l xs, .l ys, .b false, .i 0] := ⟨xs, ys, _, 0, rfl, by omega, hm, hl⟩
    simp (disch := omega) only [vt37, VT.ok, Nd.holds, X.outs, X.ds, X.d, Op1.ev, Op2.ev, List.cons_append, List.nil_append, List.getD_cons_zero, List.getD_cons_succ, D.int_i, D.bool_b, D.lst_l, Bool.false_eq_true, F13700, R13700, F37, ↓reduceIte, beq_t, Bool.not_true, lpS4_eq, sameLD_eq]
    refine ⟨fun _ => hpre, ?_⟩
    rcases scan_any (p := fun j => !same4 (el xs j) (el ys j)) (hit := fun j => [D.i 0, .b false, .i (j : Int)]) (miss := fun j => [D.i 1, .b false, .i (j : Int)]) xs.length with ⟨k1, j, _, _, _, k2⟩ | ⟨k1, k2⟩
    · rw [k2, eqR, k1, Bool.not_true, Bool.and_false]; rfl
    · rw [k2, eqR, k1, show ((xs.length : Int) == (ys.length : Int)) = true from beq_t (by omega)]; rfl
  · simp (disch := omega) only [vt37, VT.ok, X.ds, X.d, Op1.ev, Op2.ev, List.getD_cons_zero, List.getD_cons_succ, D.int_i, D.bool_b, D.lst_l, F37, ↓reduceIte, beq_f, Bool.not_false, sameLD_eq]
    rw [eqR, show ((xs.length : Int) == (ys.length : Int)) = false from beq_f (by omega), Bool.false_and]
theorem m14 : Meets Try.prog 14 S14 (R 14) (F 14) := by
  refine meets_of_vt (pre := R) (Φ := F) mixed (sgAt_all (P := Try.prog) (pre := R) (Φ := F) (l := sg14) (List.forall_mem_cons.2 ⟨Meets.at (pre := R) (Φ := F) m37, (fun _ h => nomatch h)⟩)) Try.func14 b14 n14 (loops_n 0 k14 fun k hk => by omega) e14 fun ds hf _ => ?_
  obtain ⟨x, y, rfl, hx, hy⟩ := fits2 hf.flat
  obtain ⟨xs, rfl, hm, _⟩ := wf_sl hx
  obtain ⟨ys, rfl, hm', _⟩ := wf_sl hy
  simp only [vt14, VT.ok, Nd.holds, X.outs, X.ds, X.d, takeD_zero, takeD_cons, List.cons_append, List.nil_append, List.getD_cons_zero, List.getD_cons_succ, D.bool_b, implies_true, and_true, F37, R37, F14, sameLD_eq]
theorem loopM8_1 : LoopMeets Try.prog F (R L8_1.key) L8_1 lb8_1 := by
  refine loop_meets (pre := R) mixed (sgAt_all (P := Try.prog) (pre := R) (Φ := F) (l := sg8) ((fun _ h => nomatch h))) (loops_n 0 lk8_1 fun k hk => by omega) L8_1 (fun ρ => (((ρ.getD 7 default).lst.length : Int) - (ρ.getD 1 default).int).toNat) le8_1 fun ρ _ hq => ?_
  obtain ⟨v, a, b, c, d, e, xs, j, rfl, hj, hm⟩ : prF1 ρ := hq
  by_cases hlt : j < xs.length
  · simp (disch := omega) only [rt8_1, VT.ok, Nd.holds, X.ds, X.d, Op1.ev, Op2.ev, List.getD_cons_zero, List.getD_cons_succ, D.int_i, D.bool_b, D.lst_l, Int.toNat_natCast, implies_true, true_and, ↓reduceIte, dle_t, dlt_t, w64']
    show if fwPt xs j = true then _ else _
    cases hb : fwPt xs j
    · simp only [Bool.false_eq_true, if_false]
      refine round_next ⟨⟨v, a, b, c, d, e, xs, j + 1, rfl, by omega, hm⟩, ?_, ?_⟩
      · show ((xs.length : Int) - ((j + 1 : Nat) : Int)).toNat < ((xs.length : Int) - (j : Int)).toNat
        omega
      · show lpF1 [v, .i ((j + 1 : Nat) : Int), a, b, c, d, e, .l xs] = lpF1 [v, .i (j : Int), a, b, c, d, e, .l xs]
        simp only [lpF1, scB, Int.toNat_natCast]
        exact scan_next hlt hb
    · simp only [if_true]
      refine round_exit (by omega) ?_
      show lpF1 [v, .i (j : Int), a, b, c, d, e, .l xs] = _
      simp only [lpF1, scB, Int.toNat_natCast]
      exact scan_hit hlt hb
  · have hj' : j = xs.length := by omega
    subst hj'
    simp (disch := omega) only [rt8_1, VT.ok, X.ds, X.d, Op1.ev, Op2.ev, List.getD_cons_zero, List.getD_cons_succ, D.int_i, D.bool_b, D.lst_l, Bool.false_eq_true, ↓reduceIte, dlt_f]
    refine round_exit (by omega) ?_
    show lpF1 [v, .i (xs.length : Int), a, b, c, d, e, .l xs] = _
    simp only [lpF1, scB, Int.toNat_natCast]
    exact scan_end
theorem loopM8_2 : LoopMeets Try.prog F (R L8_2.key) L8_2 lb8_2 := by
  refine loop_meets (pre := R) mixed (sgAt_all (P := Try.prog) (pre := R) (Φ := F) (l := sg8) ((fun _ h => nomatch h))) (loops_n 0 lk8_2 fun k hk => by omega) L8_2 (fun ρ => (((ρ.getD 5 default).lst.length : Int) - (ρ.getD 1 default).int).toNat) le8_2 fun ρ _ hq => ?_
  obtain ⟨v, g, j, rfl, hj, hm⟩ : prF2 ρ := hq
  by_cases hlt : j < g.E.length
  · simp (disch := omega) only [rt8_2, VT.ok, Nd.holds, X.ds, X.d, Op1.ev, Op2.ev, List.getD_cons_zero, List.getD_cons_succ, D.int_i, D.bool_b, D.lst_l, ite_b, ite_or, Int.toNat_natCast, implies_true, true_and, ↓reduceIte, dle_t, dlt_t, w64']
    show if fwEd g.E j = true then _ else _
    cases hb : fwEd g.E j
    · simp only [Bool.false_eq_true, if_false]
      refine round_next ⟨⟨v, g, j + 1, rfl, by omega, hm⟩, ?_, ?_⟩
      · show ((g.E.length : Int) - ((j + 1 : Nat) : Int)).toNat < ((g.E.length : Int) - (j : Int)).toNat
        omega
      · show lpF2 [v, .i ((j + 1 : Nat) : Int), .s g.nm, .b g.dr, .l g.N, .l g.E, .l g.C] = lpF2 [v, .i (j : Int), .s g.nm, .b g.dr, .l g.N, .l g.E, .l g.C]
        simp only [lpF2, scB, Int.toNat_natCast]
        exact scan_next hlt hb
    · simp only [if_true]
      refine round_exit (by omega) ?_
      show lpF2 [v, .i (j : Int), .s g.nm, .b g.dr, .l g.N, .l g.E, .l g.C] = _
      simp only [lpF2, scB, Int.toNat_natCast]
      exact scan_hit hlt hb
  · have hj' : j = g.E.length := by omega
    subst hj'
    simp (disch := omega) only [rt8_2, VT.ok, X.ds, X.d, Op1.ev, Op2.ev, List.getD_cons_zero, List.getD_cons_succ, D.int_i, D.bool_b, D.lst_l, Bool.false_eq_true, ↓reduceIte, dlt_f]
    refine round_exit (by omega) ?_
    show lpF2 [v, .i (g.E.length : Int), .s g.nm, .b g.dr, .l g.N, .l g.E, .l g.C] = _
    simp only [lpF2, scB, Int.toNat_natCast]
    exact scan_end
theorem loopM8_3 : LoopMeets Try.prog F (R L8_3.key) L8_3 lb8_3 := by
  refine loop_meets (pre := R) mixed (sgAt_all (P := Try.prog) (pre := R) (Φ := F) (l := sg8) ((fun _ h => nomatch h))) (loops_n 0 lk8_3 fun k hk => by omega) L8_3 (fun ρ => (((ρ.getD 6 default).lst.length : Int) - (ρ.getD 1 default).int).toNat) le8_3 fun ρ _ hq => ?_
  obtain ⟨v, g, j, rfl, hj, hm⟩ : prF3 ρ := hq
  by_cases hlt : j < g.C.length
  · simp (disch := omega) only [rt8_3, VT.ok, Nd.holds, X.ds, X.d, Op1.ev, Op2.ev, List.getD_cons_zero, List.getD_cons_succ, D.int_i, D.bool_b, D.lst_l, Int.toNat_natCast, implies_true, true_and, ↓reduceIte, dle_t, dlt_t, w64']
    show if fwPt g.C j = true then _ else _
    cases hb : fwPt g.C j
    · simp only [Bool.false_eq_true, if_false]
      refine round_next ⟨⟨v, g, j + 1, rfl, by omega, hm⟩, ?_, ?_⟩
      · show ((g.C.length : Int) - ((j + 1 : Nat) : Int)).toNat < ((g.C.length : Int) - (j : Int)).toNat
        omega
      · show lpF3 [v, .i ((j + 1 : Nat) : Int), .s g.nm, .b g.dr, .l g.N, .l g.E, .l g.C] = lpF3 [v, .i (j : Int), .s g.nm, .b g.dr, .l g.N, .l g.E, .l g.C]
        simp only [lpF3, scB, Int.toNat_natCast]
        exact scan_next hlt hb
    · simp only [if_true]
      refine round_exit (by omega) ?_
      show lpF3 [v, .i (j : Int), .s g.nm, .b g.dr, .l g.N, .l g.E, .l g.C] = _
      simp only [lpF3, scB, Int.toNat_natCast]
      exact scan_hit hlt hb
  · have hj' : j = g.C.length := by omega
    subst hj'
    simp (disch := omega) only [rt8_3, VT.ok, X.ds, X.d, Op1.ev, Op2.ev, List.getD_cons_zero, List.getD_cons_succ, D.int_i, D.bool_b, D.lst_l, Bool.false_eq_true, ↓reduceIte, dlt_f]
    refine round_exit (by omega) ?_
    show lpF3 [v, .i (g.C.length : Int), .s g.nm, .b g.dr, .l g.N, .l g.E, .l g.C] = _
    simp only [lpF3, scB, Int.toNat_natCast]
    exact scan_end
theorem lpF0_eq (v : D) (g : Gd) (j : Nat) : lpF0 [v, .i (j : Int), .s g.nm, .b g.dr, .l g.N, .l g.E, .l g.C] = scanN (fwNd g.N) (fun j => [.i 0, .b false, .i (j : Int)]) (fun j => [.i 1, v, .i (j : Int)]) (g.N.length - j) j := by
  simp only [lpF0, scB, Int.toNat_natCast]
theorem lpF1_eq (v a b c d e : D) (xs : List (List D)) : lpF1 [v, .i 0, a, b, c, d, e, .l xs] = scanN (fwPt xs) (fun j => [.i 0, .b false, .i (j : Int)]) (fun j => [.i 1, v, .i (j : Int)]) xs.length 0 := by
  simp only [lpF1, scB, Int.toNat_zero, Nat.sub_zero]
theorem lpF2_eq (v : D) (g : Gd) : lpF2 [v, .i 0, .s g.nm, .b g.dr, .l g.N, .l g.E, .l g.C] = scanN (fwEd g.E) (fun j => [.i 0, .b false, .i (j : Int)]) (fun j => [.i 1, v, .i (j : Int)]) g.E.length 0 := by
  simp only [lpF2, scB, Int.toNat_zero, Nat.sub_zero]
theorem lpF3_eq (v : D) (g : Gd) : lpF3 [v, .i 0, .s g.nm, .b g.dr, .l g.N, .l g.E, .l g.C] = scanN (fwPt g.C) (fun j => [.i 0, .b false, .i (j : Int)]) (fun j => [.i 1, v, .i (j : Int)]) g.C.length 0 := by
  simp only [lpF3, scB, Int.toNat_zero, Nat.sub_zero]
theorem loopM8_0 : LoopMeets Try.prog F (R L8_0.key) L8_0 lb8_0 := by
  refine loop_meets (pre := R) mixed (sgAt_all (P := Try.prog) (pre := R) (Φ := F) (l := sg8) ((fun _ h => nomatch h))) (loops_n 1 lk8_0 fun k hk => match k, hk with | 0, _ => by rw [li8_0_0]; exact loop_this lf8_1 loopM8_1) L8_0 (fun ρ => (((ρ.getD 4 default).lst.length : Int) - (ρ.getD 1 default).int).toNat) le8_0 fun ρ _ hq => ?_
  obtain ⟨v, g, j, rfl, hj, h64, hN⟩ : prF0 ρ := hq
  by_cases hlt : j < g.N.length
  · obtain ⟨_, xs, hx⟩ := hN j hlt
    have hx' : (g.N.getD j []).getD 5 default = .l xs := hx
    have hcl : cL (el g.N j) 5 = xs := by simp only [cL]; rw [hx]; rfl
    have hhit : fwNd g.N j = true → RoundOk F (R L8_0.key) (fun ρ => (((ρ.getD 4 default).lst.length : Int) - (ρ.getD 1 default).int).toNat) L8_0 [v, .i (j : Int), .s g.nm, .b g.dr, .l g.N, .l g.E, .l g.C] [.i 0, .b false, .i (j : Int)] := fun h => by
      refine round_exit (by omega) ?_
      rw [show F L8_0.key = lpF0 from rfl, lpF0_eq]
      exact scan_hit hlt h
    have hmiss : fwNd g.N j = false → RoundOk F (R L8_0.key) (fun ρ => (((ρ.getD 4 default).lst.length : Int) - (ρ.getD 1 default).int).toNat) L8_0 [v, .i (j : Int), .s g.nm, .b g.dr, .l g.N, .l g.E, .l g.C] [.i (-1), v, .i ((j + 1 : Nat) : Int)] := fun h => by
      refine round_next ⟨⟨v, g, j + 1, rfl, by omega, h64, hN⟩, ?_, ?_⟩
      · show ((g.N.length : Int) - ((j + 1 : Nat) : Int)).toNat < ((g.N.length : Int) - (j : Int)).toNat
        omega
      · show lpF0 [v, .i ((j + 1 : Nat) : Int), .s g.nm, .b g.dr, .l g.N, .l g.E, .l g.C] = lpF0 [v, .i (j : Int), .s g.nm, .b g.dr, .l g.N, .l g.E, .l g.C]
        rw [lpF0_eq, lpF0_eq]
        exact scan_next hlt h
    have hfw : fwNd g.N j = (((decide (40 < ((cS (el g.N j) 0).size : Int)) || decide (80 < ((cS (el g.N j) 1).size : Int))) || decide (9 < (xs.length : Int))) || anyN (fwPt xs) xs.length) := by
      unfold fwNd; rw [hcl]
    simp (disch := omega) only [rt8_0, VT.ok, Nd.holds, X.outs, X.ds, X.d, Op1.ev, Op2.ev, List.cons_append, List.nil_append, List.getD_cons_zero, List.getD_cons_succ, D.int_i, D.bool_b, D.lst_l, ite_b, ite_or, Int.toNat_natCast, implies_true, true_and, F10800, R10800, ↓reduceIte, dle_t, dlt_t, w64', hx', lpF1_eq]
    show if ((decide (40 < ((cS (el g.N j) 0).size : Int)) || decide (80 < ((cS (el g.N j) 1).size : Int))) || decide (9 < (xs.length : Int))) = true then _ else _
    cases hA : ((decide (40 < ((cS (el g.N j) 0).size : Int)) || decide (80 < ((cS (el g.N j) 1).size : Int))) || decide (9 < (xs.length : Int)))
    · have h9 : xs.length ≤ 9 := by
        simp only [Bool.or_eq_false_iff, decide_eq_false_iff_not] at hA
        omega
      rw [if_neg (by decide)]
      refine ⟨fun _ => ⟨_, _, _, _, _, _, xs, 0, rfl, by omega, h9⟩, ?_⟩
      rcases scan_any (p := fwPt xs) (hit := fun j => [D.i 0, .b false, .i (j : Int)]) (miss := fun j => [D.i 1, v, .i (j : Int)]) xs.length with ⟨k1, j, _, _, _, k2⟩ | ⟨k1, k2⟩
      · rw [k2]
        simp only [takeD_zero, takeD_cons, List.getD_cons_zero, List.getD_cons_succ, D.int_i, if_true, show ((0 : Int) == 0) = true from rfl]
        exact hhit (by rw [hfw, hA, k1]; rfl)
      · rw [k2]
        simp only [takeD_zero, takeD_cons, List.getD_cons_zero, List.getD_cons_succ, D.int_i, Bool.false_eq_true, if_false, show ((1 : Int) == 0) = false from rfl]
        exact hmiss (by rw [hfw, hA, k1]; rfl)
    · rw [if_pos rfl]
      exact hhit (by rw [hfw, hA]; rfl)
  · have hj : j = g.N.length := by omega
    subst hj
    simp (disch := omega) only [rt8_0, VT.ok, X.ds, X.d, Op1.ev, Op2.ev, List.getD_cons_zero, List.getD_cons_succ, D.int_i, D.bool_b, D.lst_l, Bool.false_eq_true, ↓reduceIte, dlt_f]
    refine round_exit (by omega) ?_
    rw [show F L8_0.key = lpF0 from rfl, lpF0_eq]
    exact scan_end
theorem fewGD_eq (g : Gd) (n e : Int) : fewGD [.s g.nm, .b g.dr, .l g.N, .l g.E, .l g.C, .i n, .i e] = [.b (fewG g n e)] := rfl
theorem nodeRow {x : List D} {a b c d e : CT} {t : TypeId} {c6 : List CT} (h : FitsF [a, b, c, d, e, .sl t c6] x) : x.length = 6 ∧ ∃ xs, x.getD 5 default = .l xs := by
  match x, h with
  | [_, _, _, _, _, y], ⟨_, _, _, _, _, h6, _⟩ =>
    obtain ⟨xs, rfl, _⟩ := wf_sl h6
    exact ⟨rfl, xs, rfl⟩
theorem m8 : Meets Try.prog 8 S8 (R 8) (F 8) := by
  refine meets_of_vt (pre := R) (Φ := F) mixed (sgAt_all (P := Try.prog) (pre := R) (Φ := F) (l := sg8) ((fun _ h => nomatch h))) Try.func8 b8 n8 (loops_n 4 k8 fun k hk => match k, hk with | 0, _ => loop_this lf8_0 loopM8_0 | 1, _ => loop_this lf8_1 loopM8_1 | 2, _ => loop_this lf8_2 loopM8_2 | 3, _ => loop_this lf8_3 loopM8_3) e8 fun ds hf hq => ?_
  obtain ⟨g, ds', rfl, h5, _, ⟨hmN, hN⟩, ⟨hmE, _⟩, hmC, _⟩ := fitsG hf.flat
  obtain ⟨x, y, rfl, hx, hy⟩ := fits2 h5
  obtain ⟨n, rfl, _⟩ := wf_i64 hx
  obtain ⟨e, rfl, _⟩ := wf_i64 hy
  obtain ⟨hn, he⟩ : n ≤ 64 ∧ e ≤ 64 := hq
  simp only [vt8, VT.ok, Nd.holds, X.outs, X.ds, X.d, Op1.ev, Op2.ev, List.cons_append, List.nil_append, List.getD_cons_zero, List.getD_cons_succ, D.int_i, D.bool_b, D.lst_l, D.str_s, ite_b, ite_or, F10801, R10801, F10802, R10802, F10803, R10803, F8, fewGD_eq]
  show if (((decide (n < (g.N.length : Int)) || decide (e < (g.E.length : Int))) || decide (6 < (g.C.length : Int))) || decide (40 < (g.nm.size : Int))) = true then _ else _
  generalize hres : fewG g n e = res
  unfold fewG at hres
  cases hA : (((decide (n < (g.N.length : Int)) || decide (e < (g.E.length : Int))) || decide (6 < (g.C.length : Int))) || decide (40 < (g.nm.size : Int)))
  · rw [hA] at hres
    have hA' := hA
    simp only [Bool.or_eq_false_iff, decide_eq_false_iff_not] at hA'
    rw [if_neg (by decide)]
    have e0 := lpF0_eq (.b false) g 0
    simp only [Int.natCast_zero, Nat.sub_zero] at e0
    simp only [e0]
    refine ⟨fun _ => ⟨_, g, 0, rfl, by omega, by omega, fun k hk => nodeRow (hN _ (getD_mem [] hk))⟩, ?_⟩
    rcases scan_any (p := fwNd g.N) (hit := fun j => [D.i 0, .b false, .i (j : Int)]) (miss := fun j => [D.i 1, .b false, .i (j : Int)]) g.N.length with ⟨k1, j, _, _, _, k2⟩ | ⟨k1, k2⟩
    · rw [k2, ← hres, k1]; rfl
    · rw [k2]
      simp only [takeD_zero, takeD_cons, List.cons_append, List.nil_append, List.getD_cons_zero, List.getD_cons_succ, D.int_i, Bool.false_eq_true, if_false, show ((1 : Int) == 0) = false from rfl, lpF2_eq]
      refine ⟨fun _ => ⟨_, g, 0, rfl, by omega, by omega⟩, ?_⟩
      rcases scan_any (p := fwEd g.E) (hit := fun j => [D.i 0, .b false, .i (j : Int)]) (miss := fun j => [D.i 1, .b false, .i (j : Int)]) g.E.length with ⟨k3, j, _, _, _, k4⟩ | ⟨k3, k4⟩
      · rw [k4, ← hres, k1, k3]; rfl
      · rw [k4]
        simp only [takeD_zero, takeD_cons, List.cons_append, List.nil_append, List.getD_cons_zero, List.getD_cons_succ, D.int_i, Bool.false_eq_true, if_false, show ((1 : Int) == 0) = false from rfl, lpF3_eq]
        refine ⟨fun _ => ⟨_, g, 0, rfl, by omega, by omega⟩, ?_⟩
        rcases scan_any (p := fwPt g.C) (hit := fun j => [D.i 0, .b false, .i (j : Int)]) (miss := fun j => [D.i 1, .b false, .i (j : Int)]) g.C.length with ⟨k5, j, _, _, _, k6⟩ | ⟨k5, k6⟩
        · rw [k6, ← hres, k1, k3, k5]; rfl
        · rw [k6, ← hres, k1, k3, k5]; rfl
  · rw [hA] at hres
    rw [if_pos rfl, ← hres]; rfl
end Go.Proofs.Ytindllmeeckfcaa.rv
