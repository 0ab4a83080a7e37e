/-
  Nested clusters: nodes and clusters lie where they should: plain facts.; Nested clusters: the laws about places: loops, plain facts.; Nested clusters: the laws about places.
-/
import Derived.Test.YtindllmeeckfcaaZCompoundContainsM
namespace Go.Proofs.Ytindllmeeckfcaa.rv
set_option maxRecDepth 10000
open Go.RV
structure Lay (a : Ar) (S : List Pt) (M K : List Bx) : Prop where
  hC : okC a.C a.C.length
  hN : ∀ v, v < a.N.length → -1 ≤ nC a.N v ∧ nC a.N v < a.C.length
  he : ∀ c : Int, -1 ≤ c → c < a.C.length → a.e S c = 0
  hS : ∀ c : Nat, c < a.C.length → S.getD c pz = a.z S c
  hB : ∀ b ∈ a.B, bxQ b = true
  hm : 0 ≤ a.m ∧ a.m ≤ 1048576
  bl : a.B.length = a.N.length
  pl : Plcd a S M K a.C.length
def apt (g : Int) (X Y : Bx) : Prop := aprt g X Y ∨ aprt g Y X
theorem apt_sub {g : Int} {X Y X' Y' : Bx} (hX : subQ X X') (hY : subQ Y Y') (h : apt g X' Y') : apt g X Y := by
  unfold apt aprt subQ at *
  omega
theorem ovQ_apt {g : Int} (hg : 0 ≤ g) {X Y : Bx} (h : apt g X Y) : ovQ X Y = false := by
  rw [Bool.eq_false_iff]
  intro h1
  simp only [ovQ, Bool.and_eq_true, decide_eq_true_eq] at h1
  unfold apt aprt at h
  omega
theorem P_at {a : Ar} {S : List Pt} {c : Int} {i k : Nat} (h : (heads a.N a.C c)[i]? = some (k : Int)) : (a.P S c).getD i pz = S.getD k pz := by
  show (partP a.N a.C a.B S c).getD i pz = _
  unfold heads at h
  unfold partP
  have key : ∀ i, ((kidL a.C c).map fun k : Nat => (k : Int))[i]? = some (k : Int) → ((kidL a.C c).map fun k => S.getD k pz)[i]? = some (S.getD k pz) := fun i h => by
    rw [List.getElem?_map] at h
    rw [List.getElem?_map]
    cases hk : (kidL a.C c)[i]? with
    | none => rw [hk] at h; simp at h
    | some k' =>
      rw [hk] at h
      simp only [Option.map_some, Option.some.injEq] at h
      have : k' = k := by omega
      subst this
      rfl
  split at h
  · rename_i h0
    rw [if_pos h0]
    cases i with
    | zero =>
      simp only [List.singleton_append, List.getElem?_cons_zero, Option.some.injEq] at h
      omega
    | succ i =>
      simp only [List.singleton_append, List.getElem?_cons_succ] at h
      show ([extQ (blk a.N a.B c)] ++ _)[i + 1]?.getD pz = _
      rw [List.singleton_append, List.getElem?_cons_succ, key i h]
      rfl
  · rename_i h0
    rw [if_neg h0]
    rw [List.nil_append] at h ⊢
    show (List.map _ _)[i]?.getD pz = _
    rw [key i h]
    rfl
theorem P_own {a : Ar} {S : List Pt} {c : Int} (h : 0 < (ownL a.N c).length) : (a.P S c).getD 0 pz = extQ (blkB a.B (ownL a.N c)) := by
  show (partP a.N a.C a.B S c).getD 0 pz = _
  unfold partP
  rw [if_pos h]
  rfl
theorem head_own {a : Ar} {c : Int} (h : 0 < (ownL a.N c).length) : (heads a.N a.C c)[0]? = some (-1) := by
  unfold heads
  rw [if_pos h]
  rfl
section
variable {a : Ar} {S : List Pt} {M K : List Bx} (h : Lay a S M K)
include h
theorem Lay.spec {c : Int} (h1 : -1 ≤ c) (h2 : c < a.C.length) : szds (a.P S c) (best (a.P S c) a.ns) ∧ (best (a.P S c) a.ns).Pairwise (aprt a.ns) := ⟨(best_spec (h.he c h1 h2)).1, (best_spec (h.he c h1 h2)).2.1⟩
omit h in
theorem head_lt {c : Int} {i : Nat} {k : Int} (hi : (heads a.N a.C c)[i]? = some k) : i < (best (a.P S c) a.ns).length ∧ i < (a.P S c).length := by
  have h1 := heads_len a.N a.C a.B S c
  have h2 := best_len (a.P S c) a.ns
  have h3 : (a.P S c).length = (partP a.N a.C a.B S c).length := rfl
  obtain ⟨h4, _⟩ := List.getElem?_eq_some_iff.1 hi
  omega
theorem Lay.par {k : Nat} (hk : k < a.C.length) : -1 ≤ cP a.C k ∧ cP a.C k < k := h.hC k hk
theorem Lay.kid {k : Nat} (hk : k < a.C.length) : ∃ i, (heads a.N a.C (cP a.C k))[i]? = some (k : Int) ∧ K.getD k z4 = PB a S K (cP a.C k) i := h.pl.kid k hk (by have := h.par hk; omega)
theorem Lay.inside {c : Nat} (hc : c < a.C.length) {i : Nat} {k : Int} (hi : (heads a.N a.C c)[i]? = some k) :
    subQ (PB a S K c i) ((K.getD c z4).1 + a.m, (K.getD c z4).2.1 + a.m, (K.getD c z4).2.2.1 - a.m, (K.getD c z4).2.2.2 - a.m) := by
  have hp := h.par hc
  obtain ⟨j, hj, hK⟩ := h.kid hc
  have s1 := szds_get (h.spec hp.1 (by omega)).1 j (head_lt hj).2
  rw [P_at hj, h.hS c hc] at s1
  have hec := h.he c (by omega) (by omega)
  have h0 := best_at0 hec
  have hu := uni_sub (l := best (a.P S c) a.ns) (fun q hq => best_ok hec hq) (getD_mem z4 (head_lt (S := S) hi).1)
  unfold PB at hK ⊢
  have ho : orgP a.m K (c : Int) = ((K.getD c z4).1 + a.m, (K.getD c z4).2.1 + a.m) := by
    unfold orgP
    rw [if_neg (by omega), Int.toNat_natCast]
  rw [ho]
  generalize K.getD c z4 = q at *
  generalize (best (a.P S (cP a.C c)) a.ns).getD j z4 = r at *
  generalize (best (a.P S c) a.ns).getD i z4 = b at *
  generalize orgP a.m K (cP a.C c) = w at *
  unfold szd Ar.z extQ at s1
  generalize uni (best (a.P S c) a.ns) = u at *
  subst hK
  unfold subQ shQ at *
  simp only at *
  omega
theorem Lay.fit {c : Nat} (hc : c < a.C.length) {i : Nat} {k : Int} (hi : (heads a.N a.C c)[i]? = some k) : subQ (PB a S K c i) (K.getD c z4) := by
  have h1 := h.inside hc hi
  have hm := h.hm
  unfold subQ at *
  simp only at h1
  omega
theorem Lay.own {v : Nat} (hv : v < a.N.length) : 0 < (ownL a.N (nC a.N v)).length := have _ := h.hm; List.length_pos_of_mem (mem_pick.2 ⟨hv, beq_iff_eq.2 rfl⟩ : v ∈ ownL a.N (nC a.N v))
theorem Lay.nod {v : Nat} (hv : v < a.N.length) : M.getD v z4 = shQ (a.B.getD v z4) (mvX a S K (nC a.N v)) (mvY a S K (nC a.N v)) := h.pl.nod v hv (h.hN v hv).2
theorem Lay.node {v : Nat} (hv : v < a.N.length) : subQ (M.getD v z4) (PB a S K (nC a.N v) 0) := by
  have hn := h.hN v hv
  have h0 := h.own hv
  have hh := head_own (a := a) h0
  have s1 := szds_get (h.spec hn.1 hn.2).1 0 (head_lt hh).2
  rw [P_own h0] at s1
  have hu : subQ (a.B.getD v z4) (blkB a.B (ownL a.N (nC a.N v))) := by
    refine uni_sub (fun q hq => ?_) (List.mem_map_of_mem (mem_pick.2 ⟨hv, beq_iff_eq.2 rfl⟩ : v ∈ ownL a.N (nC a.N v)))
    obtain ⟨w, hw, rfl⟩ := List.mem_map.1 hq
    have hw' := (mem_pick.1 hw).1
    exact h.hB _ (getD_mem z4 (by rw [h.bl]; exact hw'))
  rw [h.nod hv]
  unfold PB mvX mvY
  generalize (best (a.P S (nC a.N v)) a.ns).getD 0 z4 = b at *
  generalize orgP a.m K (nC a.N v) = w at *
  generalize blkB a.B (ownL a.N (nC a.N v)) = u at *
  generalize a.B.getD v z4 = q at *
  unfold szd extQ at s1
  unfold subQ shQ at *
  simp only at *
  omega
theorem Lay.apt {c : Int} (h1 : -1 ≤ c) (h2 : c < a.C.length) {i j : Nat} {k l : Int} (hi : (heads a.N a.C c)[i]? = some k) (hj : (heads a.N a.C c)[j]? = some l) (hij : i ≠ j) : apt a.ns (PB a S K c i) (PB a S K c j) := by
  have hp := List.pairwise_iff_getElem.1 (h.spec h1 h2).2
  have li := (head_lt (S := S) hi).1
  have lj := (head_lt (S := S) hj).1
  have ei : (best (a.P S c) a.ns).getD i z4 = (best (a.P S c) a.ns)[i] := by simp [List.getD, li]
  have ej : (best (a.P S c) a.ns).getD j z4 = (best (a.P S c) a.ns)[j] := by simp [List.getD, lj]
  unfold PB
  rw [ei, ej]
  rcases Nat.lt_or_gt_of_ne hij with hlt | hlt
  · have := hp i j li lj hlt
    unfold rv.apt
    unfold aprt shQ at *
    simp only
    omega
  · have := hp j i lj li hlt
    unfold rv.apt
    unfold aprt shQ at *
    simp only
    omega
theorem Lay.sep (c d : Int) (i j : Nat) (h1 h2 : Int) (X Y : Bx) (hc1 : -1 ≤ c) (hc2 : c < a.C.length) (hd1 : -1 ≤ d) (hd2 : d < a.C.length) (hi : (heads a.N a.C c)[i]? = some h1) (hj : (heads a.N a.C d)[j]? = some h2)
    (hX : subQ X (PB a S K c i)) (hY : subQ Y (PB a S K d j)) (hne : c = d → i ≠ j) (hh1 : h1 ∉ around a.C d) (hh2 : h2 ∉ around a.C c) : rv.apt a.ns X Y := by
  by_cases heq : c = d
  · subst heq
    exact apt_sub hX hY (h.apt hc1 hc2 hi hj (hne rfl))
  · by_cases hlt : c < d
    · have hdn : d.toNat < a.C.length := by omega
      have hdd : ((d.toNat : Nat) : Int) = d := by omega
      have hp := h.par hdn
      obtain ⟨j', hj', hK⟩ := h.kid hdn
      have hj2 : (heads a.N a.C ((d.toNat : Nat) : Int))[j]? = some h2 := by rw [hdd]; exact hj
      have hf := h.fit hdn hj2
      rw [hK, hdd] at hf
      have har : around a.C d = d :: around a.C (cP a.C d.toNat) := ar_at h.hC (by omega) hd2
      rw [har] at hh1
      refine Lay.sep c (cP a.C d.toNat) i j' h1 ((d.toNat : Nat) : Int) X Y hc1 hc2 hp.1 (by omega) hi hj' hX (hY.trans hf) (fun e hij => ?_) (fun hm => hh1 (List.mem_cons_of_mem _ hm)) (fun hm => ?_)
      · subst hij
        rw [← e, hi] at hj'
        simp only [Option.some.injEq] at hj'
        exact hh1 (by rw [hj', hdd]; exact List.mem_cons_self)
      · have := (ar_mem h.hC (c + 1).toNat c (by omega) hc2 _ hm).2
        omega
    · have hcn : c.toNat < a.C.length := by omega
      have hcc : ((c.toNat : Nat) : Int) = c := by omega
      have hp := h.par hcn
      obtain ⟨i', hi', hK⟩ := h.kid hcn
      have hi2 : (heads a.N a.C ((c.toNat : Nat) : Int))[i]? = some h1 := by rw [hcc]; exact hi
      have hf := h.fit hcn hi2
      rw [hK, hcc] at hf
      have har : around a.C c = c :: around a.C (cP a.C c.toNat) := ar_at h.hC (by omega) hc2
      rw [har] at hh2
      refine Lay.sep (cP a.C c.toNat) d i' j ((c.toNat : Nat) : Int) h2 X Y hp.1 (by omega) hd1 hd2 hi' hj (hX.trans hf) hY (fun e hij => ?_) (fun hm => ?_) (fun hm => hh2 (List.mem_cons_of_mem _ hm))
      · subst hij
        rw [e, hj] at hi'
        simp only [Option.some.injEq] at hi'
        exact hh2 (by rw [hi', hcc]; exact List.mem_cons_self)
      · have := (ar_mem h.hC (d + 1).toNat d (by omega) hd2 _ hm).2
        omega
termination_by (c + d + 2).toNat
decreasing_by all_goals omega
theorem Lay.nsp : 0 ≤ a.ns ∧ a.ns ≤ 1048576 := (cerr_ok (h.he (-1) (by omega) (by omega))).2.2.1
theorem Lay.out (hM : M.length = a.N.length) (hK : K.length = a.C.length) (hov : anyN (ovN a.B) a.B.length = false) (g : Gd) (hgN : g.N = a.N) (hgC : g.C = a.C) : overB g M K = false := by
  have hneg : ∀ d : Int, d < a.C.length → (-1 : Int) ∉ around a.C d := fun d hd hm => by
    have := (ar_mem h.hC (d + 1).toNat d (by omega) hd _ hm).1
    omega
  have hns := h.nsp.1
  unfold overB
  rw [Bool.or_eq_false_iff]
  refine ⟨anyN_false.2 fun i hi => anyN_false.2 fun k hk => ?_, anyN_false.2 fun c hc => ?_⟩
  · show ovQ (M.getD k z4) (M.getD i z4) = false
    have hiN : i < a.N.length := by omega
    have hkN : k < a.N.length := by omega
    have ni := h.hN i hiN
    have nk := h.hN k hkN
    by_cases he : nC a.N k = nC a.N i
    · have e1 := h.nod hkN
      have e2 := h.nod hiN
      rw [he] at e1
      have h3 : ovQ (a.B.getD k z4) (a.B.getD i z4) = false := anyN_false.1 (anyN_false.1 hov i (by rw [h.bl]; exact hiN)) k hk
      rw [Bool.eq_false_iff]
      intro h4
      rw [e1, e2] at h4
      have hb1 := h.hB _ (getD_mem z4 (show k < a.B.length by rw [h.bl]; exact hkN))
      have hb2 := h.hB _ (getD_mem z4 (show i < a.B.length by rw [h.bl]; exact hiN))
      rw [Bool.eq_false_iff] at h3
      refine h3 ?_
      simp only [ovQ, Bool.and_eq_true, decide_eq_true_eq] at h4 ⊢
      refine ⟨⟨⟨hb1, hb2⟩, ?_⟩, ?_⟩
      · have := h4.1.2
        unfold shQ at this
        simp only at this
        omega
      · have := h4.2
        unfold shQ at this
        simp only at this
        omega
    · exact ovQ_apt hns (h.sep _ _ 0 0 _ _ _ _ nk.1 nk.2 ni.1 ni.2 (head_own (h.own hkN)) (head_own (h.own hiN)) (h.node hkN) (h.node hiN) (fun e => absurd e he) (hneg _ ni.2) (hneg _ nk.2))
  · have hcC : c < a.C.length := by omega
    have pc := h.par hcC
    obtain ⟨i, hi, hKc⟩ := h.kid hcC
    unfold mixAny
    rw [Bool.or_eq_false_iff]
    refine ⟨anyN_false.2 fun v hv => ?_, anyN_false.2 fun d hd => ?_⟩
    · have hvN : v < a.N.length := by omega
      have nv := h.hN v hvN
      unfold mixN
      by_cases hin : inN g.N g.C c v = true
      · rw [hin]; rfl
      · have hnm : (c : Int) ∉ around a.C (nC a.N v) := fun hm => hin (by
          unfold inN
          rw [hgN, hgC, Bool.or_eq_true]
          exact .inr (List.contains_iff_mem.2 hm))
        rw [ovQ_apt hns (h.sep (nC a.N v) (cP a.C c) 0 i (-1) c (M.getD v z4) (K.getD c z4) nv.1 nv.2 pc.1 (by omega) (head_own (h.own hvN)) hi (h.node hvN) (by rw [hKc]; exact subQ_refl _) (fun e hij => ?_) (hneg _ (by omega)) hnm), Bool.and_false]
        subst hij
        rw [← e, head_own (h.own hvN)] at hi
        simp only [Option.some.injEq] at hi
        omega
    · have hdC : d < a.C.length := by omega
      have pd := h.par hdC
      obtain ⟨j, hj, hKd⟩ := h.kid hdC
      unfold mixC
      rw [hgC]
      cases h1 : lies a.C c d
      · cases h2 : lies a.C d c
        · have m1 : (d : Int) ∉ around a.C c := fun hm => by
            have := List.contains_iff_mem.2 hm
            unfold lies at h1
            rw [this] at h1
            cases h1
          have m2 : (c : Int) ∉ around a.C d := fun hm => by
            have := List.contains_iff_mem.2 hm
            unfold lies at h2
            rw [this] at h2
            cases h2
          have arc : around a.C (c : Int) = (c : Int) :: around a.C (cP a.C c) := ar_at h.hC (by omega) (by omega)
          have ard : around a.C (d : Int) = (d : Int) :: around a.C (cP a.C d) := ar_at h.hC (by omega) (by omega)
          rw [arc] at m1
          rw [ard] at m2
          rw [ovQ_apt hns (h.sep (cP a.C d) (cP a.C c) j i d c (K.getD d z4) (K.getD c z4) pd.1 (by omega) pc.1 (by omega) hj hi (by rw [hKd]; exact subQ_refl _) (by rw [hKc]; exact subQ_refl _) (fun e hij => ?_) (fun hm => m1 (List.mem_cons_of_mem _ hm)) (fun hm => m2 (List.mem_cons_of_mem _ hm))), Bool.and_false]
          subst hij
          rw [e, hi] at hj
          simp only [Option.some.injEq] at hj
          omega
        · rfl
      · rfl
theorem Lay.ok_in {X : Bx} {c : Nat} (hc : c < a.C.length) (hX : bxQ X = true) (hK : bxQ (K.getD c z4) = true) {i : Nat} {k : Int} (hi : (heads a.N a.C c)[i]? = some k) (hs : subQ X (PB a S K c i)) : inB X (inflQ (K.getD c z4) (-a.m)) = true := by
  have h1 := hs.trans (h.inside hc hi)
  have hm := h.hm
  generalize K.getD c z4 = q at *
  have x1 := bxB_iff.1 hX
  have x2 := bxB_iff.1 hK
  unfold subQ at h1
  simp only at h1
  have hv : bxB (q.1 - -a.m) (q.2.1 - -a.m) (q.2.2.1 + -a.m) (q.2.2.2 + -a.m) = true := by
    rw [bxB_iff]; omega
  have e : inflQ q (-a.m) = (q.1 - -a.m, q.2.1 - -a.m, q.2.2.1 + -a.m, q.2.2.2 + -a.m) := by
    unfold inflQ
    rw [if_pos ⟨hK, by omega, by omega, hv⟩]
  rw [e]
  unfold inB
  simp only [Bool.and_eq_true, decide_eq_true_eq]
  refine ⟨⟨⟨⟨⟨hX, hv⟩, ?_⟩, ?_⟩, ?_⟩, ?_⟩ <;> omega
theorem Lay.inn (hM : M.length = a.N.length) (hK : K.length = a.C.length) (bM : badL M = false) (bK : badL K = false) (g : Gd) (hgN : g.N = a.N) (hgC : g.C = a.C) : withinB g a.m M K = true := by
  have vM := badL_ok bM
  have vK := badL_ok bK
  have hgv : ∀ c : Nat, c < a.C.length → bxQ (K.getD c z4) = true := fun c hc => vK _ (getD_mem z4 (by omega))
  unfold withinB
  rw [hgN, hgC, Bool.not_eq_true', Bool.or_eq_false_iff]
  refine ⟨anyN_false.2 fun v hv => ?_, anyN_false.2 fun k hk => ?_⟩
  · have nv := h.hN v hv
    unfold outN okIn
    by_cases h0 : nC a.N v < 0
    · rw [decide_eq_true h0]; rfl
    · have hc : (nC a.N v).toNat < a.C.length := by omega
      have hcc : (((nC a.N v).toNat : Nat) : Int) = nC a.N v := by omega
      have hn := h.node hv
      have hh := head_own (a := a) (h.own hv)
      rw [← hcc] at hn hh
      rw [h.ok_in hc (vM _ (getD_mem z4 (by omega))) (hgv _ hc) hh hn, Bool.or_true]; rfl
  · have pk := h.par hk
    obtain ⟨i, hi, hKk⟩ := h.kid hk
    unfold outC okIn
    by_cases h0 : cP a.C k < 0
    · rw [decide_eq_true h0]; rfl
    · have hc : (cP a.C k).toNat < a.C.length := by omega
      have hcc : (((cP a.C k).toNat : Nat) : Int) = cP a.C k := by omega
      have hs : subQ (K.getD k z4) (PB a S K (cP a.C k) i) := by rw [hKk]; exact subQ_refl _
      rw [← hcc] at hi hs
      rw [h.ok_in hc (hgv k hk) (hgv _ hc) hi hs, Bool.or_true]; rfl
end
end Go.Proofs.Ytindllmeeckfcaa.rv
namespace Go.Proofs.Ytindllmeeckfcaa.rv
set_option maxRecDepth 10000
open Go.RV
theorem loopM3_1 : LoopMeets Try.prog F (R L3_1.key) L3_1 lb3_1 := by
  refine loop_meets (pre := R) mixed (sgAt_all (P := Try.prog) (pre := R) (Φ := F) (l := sg3) (fcm ⟨m8, fcm ⟨m9, fcm ⟨m10, fcm ⟨m11, (fun _ h => nomatch h)⟩⟩⟩⟩)) (loops_n 0 lk3_1 fun k hk => by omega) L3_1 (fun ρ => ((ρ.getD 3 default).int - (ρ.getD 4 default).int).toNat) le3_1 fun ρ _ hq => ?_
  obtain ⟨v, B, M, g, i, j, rfl, hj, hi, hr⟩ : prX1 ρ := hq
  have hr' := hr
  obtain ⟨r1, r2, r3, r4, r5⟩ := hr'
  by_cases hlt : j < i
  · have s1 := r5 _ (getD_mem z4 (show i < M.length by omega))
    have s2 := r5 _ (getD_mem z4 (show j < M.length by omega))
    have s3 := r4 _ (getD_mem z4 (show i < B.length by omega))
    have s4 := r4 _ (getD_mem z4 (show j < B.length by omega))
    unfold smQ at s1 s2 s3 s4
    have w1 : IntKind.i64.wrap ((M.getD i z4).1 - (M.getD j z4).1) = (M.getD i z4).1 - (M.getD j z4).1 := w64 (by omega)
    have w2 : IntKind.i64.wrap ((M.getD i z4).2.1 - (M.getD j z4).2.1) = (M.getD i z4).2.1 - (M.getD j z4).2.1 := w64 (by omega)
    have w3 : IntKind.i64.wrap ((B.getD i z4).1 - (B.getD j z4).1) = (B.getD i z4).1 - (B.getD j z4).1 := w64 (by omega)
    have w4 : IntKind.i64.wrap ((B.getD i z4).2.1 - (B.getD j z4).2.1) = (B.getD i z4).2.1 - (B.getD j z4).2.1 := w64 (by omega)
    simp (disch := omega) only [rt3_1, VT.ok, Nd.holds, X.ds, X.d, Op1.ev, Op2.ev, List.getD_cons_zero, List.getD_cons_succ, D.int_i, D.bool_b, D.lst_l, ite_b, ite_or, ite_and, Int.toNat_natCast, List.length_map, implies_true, true_and, ↓reduceIte, dle_t, dlt_t, w64', rowQz, encQ, List.length_map, w1, w2, w3, w4]
    show if relB g.N B M i j = true then _ else _
    cases hb : relB g.N B M i j
    · simp only [Bool.false_eq_true, if_false]
      refine round_next ⟨⟨v, B, M, g, i, j + 1, rfl, by omega, hi, hr⟩, ?_, ?_⟩
      · show ((i : Int) - ((j + 1 : Nat) : Int)).toNat < ((i : Int) - (j : Int)).toNat
        omega
      · show lpX1 [.l (B.map encQ), v, .l (M.map encQ), .i (i : Int), .i ((j + 1 : Nat) : Int), .s g.nm, .b g.dr, .l g.N, .l g.E, .l g.C] = lpX1 [.l (B.map encQ), v, .l (M.map encQ), .i (i : Int), .i (j : Int), .s g.nm, .b g.dr, .l g.N, .l g.E, .l g.C]
        simp only [lpX1, map_decQ, scB, Int.toNat_natCast]
        exact scan_next hlt hb
    · simp only [if_true]
      refine round_exit (by omega) ?_
      show lpX1 [.l (B.map encQ), v, .l (M.map encQ), .i (i : Int), .i (j : Int), .s g.nm, .b g.dr, .l g.N, .l g.E, .l g.C] = _
      simp only [lpX1, map_decQ, scB, Int.toNat_natCast]
      exact scan_hit hlt hb
  · have hj' : j = i := by omega
    subst hj'
    simp (disch := omega) only [rt3_1, VT.ok, X.ds, X.d, Op2.ev, List.getD_cons_zero, List.getD_cons_succ, D.int_i, D.bool_b, Bool.false_eq_true, ↓reduceIte, dlt_f]
    refine round_exit (by omega) ?_
    show lpX1 [.l (B.map encQ), v, .l (M.map encQ), .i (j : Int), .i (j : Int), .s g.nm, .b g.dr, .l g.N, .l g.E, .l g.C] = _
    simp only [lpX1, map_decQ, scB, Int.toNat_natCast]
    exact scan_end
theorem lpX1_eq (B M : List Bx) (v : D) (g : Gd) (i : Nat) : lpX1 [.l (B.map encQ), v, .l (M.map encQ), .i (i : Int), .i 0, .s g.nm, .b g.dr, .l g.N, .l g.E, .l g.C] = scanN (relB g.N B M i) (fun j => [.i 0, .b false, .i (j : Int)]) (fun j => [.i 1, v, .i (j : Int)]) i 0 := by
  simp only [lpX1, map_decQ, scB, Int.toNat_natCast, Int.toNat_zero, Nat.sub_zero]
theorem lpX0_eq (B M : List Bx) (v : D) (g : Gd) (j : Nat) : lpX0 [.l (B.map encQ), v, .l (M.map encQ), .i (j : Int), .s g.nm, .b g.dr, .l g.N, .l g.E, .l g.C] = scanN (relAny g.N B M) (fun j => [.i 0, .b false, .i (j : Int)]) (fun j => [.i 1, v, .i (j : Int)]) (M.length - j) j := by
  simp only [lpX0, map_decQ, List.length_map, scB, Int.toNat_natCast]
theorem loopM3_0 : LoopMeets Try.prog F (R L3_0.key) L3_0 lb3_0 := by
  refine loop_meets (pre := R) mixed (sgAt_all (P := Try.prog) (pre := R) (Φ := F) (l := sg3) (fcm ⟨m8, fcm ⟨m9, fcm ⟨m10, fcm ⟨m11, (fun _ h => nomatch h)⟩⟩⟩⟩)) (loops_n 1 lk3_0 fun k hk => match k, hk with | 0, _ => by rw [li3_0_0]; exact loop_this lf3_1 loopM3_1) L3_0 (fun ρ => (((ρ.getD 2 default).lst.length : Int) - (ρ.getD 3 default).int).toNat) le3_0 fun ρ _ hq => ?_
  obtain ⟨v, B, M, g, j, rfl, hj, hr⟩ : prX0 ρ := hq
  have hr' := hr
  obtain ⟨r1, r2, r3, r4, r5⟩ := hr'
  by_cases hlt : j < M.length
  · have hl := lpX1_eq B M v g j
    simp (disch := omega) only [rt3_0, VT.ok, Nd.holds, X.outs, X.ds, X.d, Op1.ev, Op2.ev, List.cons_append, List.nil_append, List.getD_cons_zero, List.getD_cons_succ, D.int_i, D.bool_b, D.lst_l, List.length_map, F10300, R10300, ↓reduceIte, dlt_t, w64', hl]
    refine ⟨fun _ => ⟨v, B, M, g, j, 0, rfl, by omega, hlt, hr⟩, ?_⟩
    rcases scan_any (p := relB g.N B M j) (hit := fun j => [D.i 0, .b false, .i (j : Int)]) (miss := fun j => [D.i 1, v, .i (j : Int)]) j with ⟨h1, k, _, _, _, h2⟩ | ⟨h1, h2⟩
    · rw [h2]
      simp only [takeD_zero, takeD_cons, List.getD_cons_zero, List.getD_cons_succ, D.int_i, if_true, show ((0 : Int) == 0) = true from rfl]
      refine round_exit (by omega) ?_
      rw [show F L3_0.key = lpX0 from rfl, lpX0_eq]
      exact scan_hit hlt h1
    · rw [h2]
      simp only [takeD_zero, takeD_cons, List.getD_cons_zero, List.getD_cons_succ, D.int_i, Bool.false_eq_true, if_false, show ((1 : Int) == 0) = false from rfl]
      refine round_next ⟨⟨v, B, M, g, j + 1, rfl, by omega, hr⟩, ?_, ?_⟩
      · show (((M.map encQ).length : Int) - ((j + 1 : Nat) : Int)).toNat < (((M.map encQ).length : Int) - (j : Int)).toNat
        rw [List.length_map]; omega
      · show lpX0 [.l (B.map encQ), v, .l (M.map encQ), .i ((j + 1 : Nat) : Int), .s g.nm, .b g.dr, .l g.N, .l g.E, .l g.C] = lpX0 [.l (B.map encQ), v, .l (M.map encQ), .i (j : Int), .s g.nm, .b g.dr, .l g.N, .l g.E, .l g.C]
        rw [lpX0_eq, lpX0_eq]
        exact scan_next hlt h1
  · have hj : j = M.length := by omega
    subst hj
    simp (disch := omega) only [rt3_0, VT.ok, X.ds, X.d, Op1.ev, Op2.ev, List.getD_cons_zero, List.getD_cons_succ, D.int_i, D.bool_b, D.lst_l, List.length_map, Bool.false_eq_true, ↓reduceIte, dlt_f]
    refine round_exit (by omega) ?_
    rw [show F L3_0.key = lpX0 from rfl, lpX0_eq]
    exact scan_end
end Go.Proofs.Ytindllmeeckfcaa.rv
namespace Go.Proofs.Ytindllmeeckfcaa.rv
set_option maxRecDepth 10000
open Go.RV
theorem place_err {g : Gd} {o : Od} {B : List Bx} (h : ¬ (placeR g o B).2 = 0) : (placeR g o B).1 = ([], []) := by
  unfold placeR at *
  split at h
  · rename_i h0
    rw [if_pos h0]
    cases ha : (arOf g o B).all with
    | none => rfl
    | some r =>
      obtain ⟨S, T⟩ := r
      rw [ha] at h
      simp only at h ⊢
      split at h
      · rename_i h1
        rw [if_pos h1]
      · exact absurd rfl h
  · rename_i h0
    rw [if_neg h0]
theorem place_lay {g : Gd} {o : Od} {B M K : List Bx} (h : placeR g o B = ((M, K), 0)) : inE g o B = 0 ∧ M.length = g.N.length ∧ K.length = g.C.length ∧ badL M = false ∧ badL K = false ∧ ∃ S, Lay (arOf g o B) S M K := by
  unfold placeR at h
  split at h
  · rename_i h0
    refine ⟨h0, ?_⟩
    obtain ⟨h1, h2, h3, h4, h5⟩ := inE_ok h0
    obtain ⟨_, _, v3, v4⟩ := valid_okV h1
    have ho := Od.ok_iff.1 h2
    cases ha : (arOf g o B).all with
    | none =>
      rw [ha] at h
      simp only [Prod.mk.injEq] at h
      exact absurd h.2 (by decide)
    | some r =>
      obtain ⟨S, T⟩ := r
      rw [ha] at h
      have hd := all_done (a := arOf g o B) v3 ha
      simp only at h
      split at h
      · simp only [Prod.mk.injEq] at h
        exact absurd h.2 (by decide)
      · rename_i hb
        simp only [Prod.mk.injEq, and_true] at h
        have hb' := Bool.eq_false_iff.2 hb
        rw [h, Bool.or_eq_false_iff] at hb'
        have hN : ∀ v, v < (arOf g o B).N.length → -1 ≤ nC (arOf g o B).N v ∧ nC (arOf g o B).N v < (arOf g o B).C.length := v4
        have hpl := put_all (a := arOf g o B) v3 (fun v hv => (hN v hv).1) hd
        obtain ⟨l1, l2⟩ := put_len (arOf g o B) T _ 0 (put0 (arOf g o B) T) rfl (by omega)
        obtain ⟨l3, l4⟩ := pTs_len B (ownL g.N (-1)) 0 0 (T.getD g.C.length []) (List.replicate g.N.length z4, List.replicate g.C.length z4)
        have l5 : (put (arOf g o B) T).1.length = g.N.length := l1.trans (l3.trans List.length_replicate)
        have l6 : (put (arOf g o B) T).2.length = g.C.length := l2.trans (l4.trans List.length_replicate)
        rw [h] at hpl l5 l6
        exact ⟨l5, l6, hb'.1, hb'.2, S, v3, hN, fun c h1 h2 => hd.all_e h1 h2, fun c hc => (hd.at' c hc).2.2.1, badB_ok h4, ho.2.2.2.1, h3, hpl⟩
  · rename_i h0
    simp only [Prod.mk.injEq] at h
    exact absurd h.2 h0
theorem place_chk {g : Gd} {o : Od} {B M K : List Bx} (h : placeR g o B = ((M, K), 0)) : chkE g o M K = 0 := by
  obtain ⟨h0, hM, hK, bM, bK, S, hL⟩ := place_lay h
  obtain ⟨h1, h2, h3, h4, h5⟩ := inE_ok h0
  have hS : anyN (badS g.N M) M.length = false := anyN_false.2 fun v hv => by
    have hb := anyN_false.1 h4 v (by omega)
    have hn := hL.nod (v := v) (by show v < g.N.length; omega)
    have hn' : M.getD v z4 = shQ (B.getD v z4) (mvX (arOf g o B) S K (nC g.N v)) (mvY (arOf g o B) S K (nC g.N v)) := hn
    unfold badB at hb
    rw [Bool.or_eq_false_iff] at hb
    have e : extQ (M.getD v z4) = extQ (B.getD v z4) := by
      rw [hn']
      unfold extQ shQ
      simp only [Prod.mk.injEq]
      omega
    unfold badS
    rw [e]
    exact hb.2
  have hW : withinB g o.m M K = true := hL.inn hM hK bM bK g rfl rfl
  have hO : overB g M K = false := hL.out hM hK h5 g rfl rfl
  rw [chkE, if_pos h1, if_pos h2, if_neg (by rw [hM, hK, bM, bK]; simp), if_neg (by rw [hS]; decide), if_pos hW, if_neg (by rw [hO]; decide)]
theorem place_rel {g : Gd} {o : Od} {B M K : List Bx} (h : placeR g o B = ((M, K), 0)) : anyN (relAny g.N B M) M.length = false := by
  obtain ⟨h0, hM, hK, bM, bK, S, hL⟩ := place_lay h
  refine anyN_false.2 fun i hi => anyN_false.2 fun k hk => ?_
  have h1 : M.getD i z4 = shQ (B.getD i z4) (mvX (arOf g o B) S K (nC g.N i)) (mvY (arOf g o B) S K (nC g.N i)) := hL.nod (v := i) (by show i < g.N.length; omega)
  have h2 : M.getD k z4 = shQ (B.getD k z4) (mvX (arOf g o B) S K (nC g.N k)) (mvY (arOf g o B) S K (nC g.N k)) := hL.nod (v := k) (by show k < g.N.length; omega)
  unfold relB
  cases he : (nC g.N i == nC g.N k)
  · rfl
  · have he' := eq_of_beq he
    rw [← he'] at h2
    rw [h1, h2, Bool.true_and, Bool.or_eq_false_iff]
    unfold shQ
    simp only [Bool.not_eq_false', beq_iff_eq]
    omega
theorem law3 : Meets Try.prog 3 S3 (fun _ => True) (fun _ => [.b true]) := by
  refine meets_of_vt (pre := R) (Φ := F) mixed (sgAt_all (P := Try.prog) (pre := R) (Φ := F) (l := sg3) (fcm ⟨m8, fcm ⟨m9, fcm ⟨m10, fcm ⟨m11, (fun _ h => nomatch h)⟩⟩⟩⟩)) Try.func3 b3 n3 (loops_n 2 k3 fun k hk => match k, hk with | 0, _ => loop_this lf3_0 loopM3_0 | 1, _ => loop_this lf3_1 loopM3_1) e3 fun ds hf _ => ?_
  obtain ⟨g, o, B, ds', rfl, h0, hm, _⟩ := fitsGO hf.flat
  obtain rfl := fits0 h0
  have h1 : fewGP [.s g.nm, .b g.dr, .l g.N, .l g.E, .l g.C, .i 8, .i 6] := by show (8 : Int) ≤ 64 ∧ (6 : Int) ≤ 64; decide
  have hE := place_err (g := g) (o := o) (B := B)
  have hl1 := @place_lay g o B
  have hl2 := @place_chk g o B
  have hl3 := @place_rel g o B
  simp only [vt3, VT.ok, Nd.holds, X.outs, X.ds, X.d, Op1.ev, Op2.ev, takeD_zero, takeD_cons, List.cons_append, List.nil_append, List.getD_cons_zero, List.getD_cons_succ, D.int_i, D.bool_b, D.lst_l, ite_b, ite_or, ite_and, List.length_map, implies_true, true_and, and_true, takeD1_0, F10, R10, F11, R11, F8, R8, F9, R9, F10301, R10301, fewGD_eq, placeD_eq, one]
  refine ⟨fun _ => h1, ?_⟩
  generalize placeR g o B = PR at *
  obtain ⟨⟨M, K⟩, e⟩ := PR
  simp only [chD_eq] at *
  split
  · trivial
  · by_cases he : e = 0
    · subst he
      obtain ⟨h0, hM, hK, bM, bK, _⟩ := hl1 rfl
      obtain ⟨k1, k2, k3, k4, _⟩ := inE_ok h0
      have hc := hl2 rfl
      have hr := hl3 rfl
      have hv := valid_len k1
      have e0 := lpX0_eq B M (.b false) g 0
      simp only [Int.natCast_zero, Nat.sub_zero] at e0
      have hMB : ((M.length : Int) == (B.length : Int)) = true := beq_t (by omega)
      simp only [hc, hMB, show ((0 : Int) == 0) = true from rfl, Bool.not_true, Bool.false_eq_true, if_false, e0]
      refine ⟨fun _ => ⟨_, B, M, g, 0, rfl, by omega, by omega, by omega, by omega, fun q hq => smQ_of (badB_ok k4 q hq), fun q hq => smQ_of (badL_ok bM q hq)⟩, ?_⟩
      rcases scan_any (p := relAny g.N B M) (hit := fun j => [D.i 0, .b false, .i (j : Int)]) (miss := fun j => [D.i 1, .b false, .i (j : Int)]) M.length with ⟨a1, j, _, _, _, a2⟩ | ⟨a1, a2⟩
      · rw [hr] at a1; cases a1
      · rw [a2]
        simp only [takeD_zero, takeD_cons, List.cons_append, List.nil_append, List.getD_cons_zero, List.getD_cons_succ, D.int_i, Bool.false_eq_true, if_false, show ((1 : Int) == 0) = false from rfl]
    · have hMK := hE he
      simp only [Prod.mk.injEq] at hMK
      obtain ⟨rfl, rfl⟩ := hMK
      have hb : (!(e == 0)) = true := by simp [he]
      simp only [hb, if_true]
      simp
end Go.Proofs.Ytindllmeeckfcaa.rv
