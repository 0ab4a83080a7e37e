/-
  Nested clusters: the chapter's example, the first laws.; Nested clusters: where nodes and clusters are placed: plain facts.; Nested clusters: nodes and clusters lie where they should: plain facts.; Nested clusters: the laws about places: loops, plain facts.; Nested clusters: the laws about places.
-/
import Derived.Test.YtindllmeeckfcaaZCompoundApartM
namespace Go.Proofs.Ytindllmeeckfcaa.rv
set_option maxRecDepth 10000
open Go.RV
theorem m9 : Meets Try.prog 9 S9 (R 9) (F 9) := by
  refine meets_of_vt (pre := R) (Φ := F) mixed (sgAt_all (P := Try.prog) (pre := R) (Φ := F) (l := sg9) (List.forall_mem_cons.2 ⟨Meets.at (pre := R) (Φ := F) m12, List.forall_mem_cons.2 ⟨Meets.at (pre := R) (Φ := F) m10, List.forall_mem_cons.2 ⟨Meets.at (pre := R) (Φ := F) m14, List.forall_mem_cons.2 ⟨Meets.at (pre := R) (Φ := F) m11, (fun _ h => nomatch h)⟩⟩⟩⟩)) Try.func9 b9 n9 (loops_n 0 k9 fun k hk => by omega) e9 fun ds hf hq => ?_
  have e0 := fits0 hf.flat
  subst e0
  simp only [vt9, VT.ok, Nd.holds, X.outs, X.ds, X.d, Op1.ev, Op2.ev, List.nil_append, D.int_i, D.bool_b, D.lst_l, implies_true, true_and, F12, R12, F10, R10, F11, R11, F14, R14, F9]
  refine ⟨fun _ => by kernel_rfl, fun _ => by kernel_rfl, fun _ => by kernel_rfl, by kernel_rfl⟩
end Go.Proofs.Ytindllmeeckfcaa.rv
namespace Go.Proofs.Ytindllmeeckfcaa.rv
set_option maxRecDepth 10000
open Go.RV
theorem putK_not (x y : Int) : ∀ (l : List (Nat × Bx)) (K : List Bx) (j : Nat), (∀ t ∈ l, t.1 ≠ j) → (putK x y l K).getD j z4 = K.getD j z4
  | [], K, j, _ => rfl
  | t :: l, K, j, h => by
    rw [putK_cons, putK_not x y l _ j (fun u hu => h u (by simp [hu])), getD_setN (h t (by simp))]
theorem putK_in (x y : Int) : ∀ (l : List (Nat × Bx)) (K : List Bx), (l.map (·.1)).Nodup → ∀ t ∈ l, t.1 < K.length → (putK x y l K).getD t.1 z4 = shQ t.2 x y
  | [], K, _, t, ht, _ => by cases ht
  | u :: l, K, hn, t, ht, hl => by
    rw [putK_cons]
    rw [List.map_cons, List.nodup_cons] at hn
    rcases List.mem_cons.1 ht with rfl | ht
    · rw [putK_not x y l _ _ (fun v hv he => hn.1 (by rw [← he]; exact List.mem_map_of_mem (f := fun x : Nat × Bx => x.1) hv)), getD_setS hl]
    · exact putK_in x y l _ hn.2 t ht (by rw [List.length_set]; exact hl)
theorem putN_not (B : List Bx) (x y : Int) : ∀ (l : List Nat) (M : List Bx) (j : Nat), j ∉ l → (putN B l x y M).getD j z4 = M.getD j z4
  | [], M, j, _ => rfl
  | v :: l, M, j, h => by
    rw [putN_cons, putN_not B x y l _ j (fun hj => h (by simp [hj])), getD_setN (fun e => h (by simp [e]))]
theorem putN_in (B : List Bx) (x y : Int) : ∀ (l : List Nat) (M : List Bx) (j : Nat), j ∈ l → j < M.length → (putN B l x y M).getD j z4 = shQ (B.getD j z4) x y
  | [], M, j, h, _ => by cases h
  | v :: l, M, j, h, hl => by
    rw [putN_cons]
    by_cases hj : j ∈ l
    · exact putN_in B x y l _ j hj (by rw [List.length_set]; exact hl)
    · have : j = v := by
        rcases List.mem_cons.1 h with h | h
        · exact h
        · exact absurd h hj
      subst this
      rw [putN_not B x y l _ _ hj, getD_setS hl]
theorem mem_pick {p : Nat → Bool} {n v : Nat} : v ∈ pickN p n ↔ v < n ∧ p v = true := by simp [pickN]
theorem pick_nodup (p : Nat → Bool) (n : Nat) : (pickN p n).Nodup := List.Pairwise.filter _ List.nodup_range
def off (N : List (List D)) (c : Int) : Nat := if 0 < (ownL N c).length then 1 else 0
theorem P_len (a : Ar) (S : List Pt) (c : Int) : (a.P S c).length = off a.N c + (kidL a.C c).length := by
  show (partP a.N a.C a.B S c).length = _
  unfold partP off
  rw [List.length_append, List.length_map]
  split <;> rfl
theorem putTs_t (a : Ar) (S : List Pt) (c x y : Int) (M K : List Bx) : putTs a.B (ownL a.N c) x y (a.t S c) (M, K) =
    (if 0 < (ownL a.N c).length then putN a.B (ownL a.N c) (x + ((best (a.P S c) a.ns).getD 0 z4).1 - (blkB a.B (ownL a.N c)).1) (y + ((best (a.P S c) a.ns).getD 0 z4).2.1 - (blkB a.B (ownL a.N c)).2.1) M else M,
      putK x y ((kidL a.C c).zip ((best (a.P S c) a.ns).drop (off a.N c))) K) := by
  by_cases h : 0 < (ownL a.N c).length
  · rw [putTs_own h, if_pos h, off, if_pos h]
  · rw [putTs_none h, if_neg h, off, if_neg h, List.drop_zero]
theorem heads_kid {a : Ar} {c : Int} {t : Nat} (h : t < (kidL a.C c).length) : (heads a.N a.C c)[off a.N c + t]? = some (((kidL a.C c)[t] : Nat) : Int) := by
  unfold heads off
  split
  · rw [List.getElem?_append_right (by simp)]
    simp [h]
  · simp [h]
theorem kid_put (a : Ar) (S : List Pt) (c x y : Int) (K : List Bx) {k : Nat} (hk : k ∈ kidL a.C c) (hl : k < K.length) :
    ∃ i, (heads a.N a.C c)[i]? = some (k : Int) ∧ (putK x y ((kidL a.C c).zip ((best (a.P S c) a.ns).drop (off a.N c))) K).getD k z4 = shQ ((best (a.P S c) a.ns).getD i z4) x y := by
  obtain ⟨t, ht, he⟩ := List.getElem_of_mem hk
  have hb := best_len (a.P S c) a.ns
  have hp := P_len a S c
  refine ⟨off a.N c + t, by rw [heads_kid ht, he], ?_⟩
  have hlt : off a.N c + t < (best (a.P S c) a.ns).length := by omega
  have hm : (k, (best (a.P S c) a.ns).getD (off a.N c + t) z4) ∈ (kidL a.C c).zip ((best (a.P S c) a.ns).drop (off a.N c)) := by
    rw [List.mem_iff_getElem]
    refine ⟨t, by rw [List.length_zip, List.length_drop]; omega, ?_⟩
    rw [List.getElem_zip, List.getElem_drop, he]
    simp [List.getD, hlt]
  have hz : ((kidL a.C c).zip ((best (a.P S c) a.ns).drop (off a.N c))).map (·.1) = kidL a.C c := List.map_fst_zip (by rw [List.length_drop]; omega)
  exact putK_in x y _ K (by rw [hz]; exact pick_nodup _ _) _ hm hl
theorem kid_not (a : Ar) (S : List Pt) (c x y : Int) (K : List Bx) {k : Nat} (hk : cP a.C k ≠ c) : (putK x y ((kidL a.C c).zip ((best (a.P S c) a.ns).drop (off a.N c))) K).getD k z4 = K.getD k z4 := by
  refine putK_not x y _ K k fun t ht he => hk ?_
  have h1 := (List.of_mem_zip (a := t.1) (b := t.2) ht).1
  have h2 := (mem_pick.1 h1).2
  rw [he] at h2
  exact eq_of_beq h2
def orgP (m : Int) (K : List Bx) (c : Int) : Pt := if c < 0 then (0, 0) else ((K.getD c.toNat z4).1 + m, (K.getD c.toNat z4).2.1 + m)
def PB (a : Ar) (S : List Pt) (K : List Bx) (c : Int) (i : Nat) : Bx := shQ ((best (a.P S c) a.ns).getD i z4) (orgP a.m K c).1 (orgP a.m K c).2
def mvX (a : Ar) (S : List Pt) (K : List Bx) (c : Int) : Int := (orgP a.m K c).1 + ((best (a.P S c) a.ns).getD 0 z4).1 - (blkB a.B (ownL a.N c)).1
def mvY (a : Ar) (S : List Pt) (K : List Bx) (c : Int) : Int := (orgP a.m K c).2 + ((best (a.P S c) a.ns).getD 0 z4).2.1 - (blkB a.B (ownL a.N c)).2.1
structure Plcd (a : Ar) (S : List Pt) (M K : List Bx) (n : Int) : Prop where
  kid : ∀ k, k < a.C.length → cP a.C k < n → ∃ i, (heads a.N a.C (cP a.C k))[i]? = some (k : Int) ∧ K.getD k z4 = PB a S K (cP a.C k) i
  nod : ∀ v, v < a.N.length → nC a.N v < n → M.getD v z4 = shQ (a.B.getD v z4) (mvX a S K (nC a.N v)) (mvY a S K (nC a.N v))
theorem orgP_congr {m : Int} {K K' : List Bx} {c : Int} (h : 0 ≤ c → K'.getD c.toNat z4 = K.getD c.toNat z4) : orgP m K' c = orgP m K c := by
  unfold orgP
  split
  · rfl
  · rw [h (by omega)]
theorem Plcd.step {a : Ar} {S : List Pt} {M K : List Bx} {c : Int} (hC : okC a.C a.C.length) (hN : ∀ v, v < a.N.length → -1 ≤ nC a.N v) (hc : -1 ≤ c) (hM : M.length = a.N.length) (hK : K.length = a.C.length) (hcl : c < a.C.length) (h : Plcd a S M K c) :
    Plcd a S (putTs a.B (ownL a.N c) (orgP a.m K c).1 (orgP a.m K c).2 (a.t S c) (M, K)).1 (putTs a.B (ownL a.N c) (orgP a.m K c).1 (orgP a.m K c).2 (a.t S c) (M, K)).2 (c + 1) := by
  rw [putTs_t]
  generalize hK' : putK (orgP a.m K c).1 (orgP a.m K c).2 ((kidL a.C c).zip ((best (a.P S c) a.ns).drop (off a.N c))) K = K'
  have hold : ∀ k, cP a.C k ≠ c → K'.getD k z4 = K.getD k z4 := fun k hk => by rw [← hK']; exact kid_not a S c _ _ K hk
  have horg : ∀ d : Int, -1 ≤ d → d ≤ c → orgP a.m K' d = orgP a.m K d := fun d h1 h2 => orgP_congr fun h3 => hold _ fun he => by
    have := hC d.toNat (by omega)
    have he' : cI (el a.C d.toNat) 1 = c := he
    omega
  have hPB : ∀ d : Int, -1 ≤ d → d ≤ c → ∀ i, PB a S K' d i = PB a S K d i := fun d h1 h2 i => by unfold PB; rw [horg d h1 h2]
  have hmX : ∀ d : Int, -1 ≤ d → d ≤ c → mvX a S K' d = mvX a S K d := fun d h1 h2 => by unfold mvX; rw [horg d h1 h2]
  have hmY : ∀ d : Int, -1 ≤ d → d ≤ c → mvY a S K' d = mvY a S K d := fun d h1 h2 => by unfold mvY; rw [horg d h1 h2]
  refine ⟨fun k hk hp => ?_, fun v hv hp => ?_⟩
  · have hpk : -1 ≤ cP a.C k := (hC k hk).1
    by_cases he : cP a.C k = c
    · obtain ⟨i, h1, h2⟩ := kid_put a S c (orgP a.m K c).1 (orgP a.m K c).2 K (k := k) (mem_pick.2 ⟨hk, beq_iff_eq.2 he⟩) (by omega)
      rw [he]
      refine ⟨i, h1, ?_⟩
      rw [hPB c hc (Int.le_refl _) i, ← hK']
      exact h2
    · obtain ⟨i, h1, h2⟩ := h.kid k hk (by omega)
      refine ⟨i, h1, ?_⟩
      rw [hPB _ hpk (by omega) i, hold k he, h2]
  · have hpv := hN v hv
    by_cases he : nC a.N v = c
    · have hm : v ∈ ownL a.N c := mem_pick.2 ⟨hv, beq_iff_eq.2 he⟩
      have h0 : 0 < (ownL a.N c).length := List.length_pos_of_mem hm
      rw [he, hmX c hc (Int.le_refl _), hmY c hc (Int.le_refl _)]
      simp only [if_pos h0]
      exact putN_in a.B _ _ _ M v hm (by omega)
    · rw [hmX _ hpv (by omega), hmY _ hpv (by omega), ← h.nod v hv (by omega)]
      have hm : v ∉ ownL a.N c := fun hm => he (eq_of_beq (mem_pick.1 hm).2)
      simp only
      split
      · exact putN_not a.B _ _ _ M v hm
      · rfl
theorem put_plcd {a : Ar} {S : List Pt} {T : List (List Tp)} (hC : okC a.C a.C.length) (hN : ∀ v, v < a.N.length → -1 ≤ nC a.N v) (hd : a.done S T) : ∀ (n i : Nat) (s : Pl), a.C.length - i = n → i ≤ a.C.length → s.1.length = a.N.length → s.2.length = a.C.length → Plcd a S s.1 s.2 i → Plcd a S (putF a T i s).1 (putF a T i s).2 a.C.length
  | 0, i, s, hn, hi, _, _, h => by
    have : i = a.C.length := by omega
    subst this
    rw [putF_end]
    exact h
  | n + 1, i, s, hn, hi, h1, h2, h => by
    have hlt : i < a.C.length := by omega
    rw [putF_next hlt]
    have ho : orgP a.m s.2 (i : Int) = ((s.2.getD i z4).1 + a.m, (s.2.getD i z4).2.1 + a.m) := by
      unfold orgP
      rw [if_neg (by omega), Int.toNat_natCast]
    have hs := h.step (a := a) (S := S) hC hN (by omega) h1 h2 (by omega)
    rw [ho] at hs
    have hp : putC a T s i = putTs a.B (ownL a.N i) ((s.2.getD i z4).1 + a.m) ((s.2.getD i z4).2.1 + a.m) (a.t S i) (s.1, s.2) := by
      show putTs a.B (ownL a.N i) ((s.2.getD i z4).1 + a.m) ((s.2.getD i z4).2.1 + a.m) (T.getD i []) s = _
      rw [(hd.at' i hlt).2.2.2]
    rw [← hp] at hs
    obtain ⟨l1, l2⟩ := pTs_len a.B (ownL a.N i) ((s.2.getD i z4).1 + a.m) ((s.2.getD i z4).2.1 + a.m) (a.t S i) (s.1, s.2)
    rw [← hp] at l1 l2
    exact put_plcd hC hN hd n (i + 1) _ (by omega) (by omega) (l1.trans h1) (l2.trans h2) hs
theorem put_all {a : Ar} {S : List Pt} {T : List (List Tp)} (hC : okC a.C a.C.length) (hN : ∀ v, v < a.N.length → -1 ≤ nC a.N v) (hd : a.done S T) : Plcd a S (put a T).1 (put a T).2 a.C.length := by
  have h0 : Plcd a S (List.replicate a.N.length z4) (List.replicate a.C.length z4) (-1) := ⟨fun k hk hp => by have := (hC k hk).1; exact absurd hp (by show ¬ cI (el a.C k) 1 < -1; omega), fun v hv hp => by have := hN v hv; omega⟩
  have hs := h0.step (a := a) (S := S) hC hN (by omega) List.length_replicate List.length_replicate (by omega)
  have hp : put0 a T = putTs a.B (ownL a.N (-1)) 0 0 (a.t S (-1)) (List.replicate a.N.length z4, List.replicate a.C.length z4) := by
    rw [put0, hd.t1]
  have ho : orgP a.m (List.replicate a.C.length z4) (-1) = (0, 0) := rfl
  rw [ho] at hs
  simp only at hs
  rw [← hp] at hs
  obtain ⟨l1, l2⟩ := pTs_len a.B (ownL a.N (-1)) 0 0 (a.t S (-1)) (List.replicate a.N.length z4, List.replicate a.C.length z4)
  rw [← hp] at l1 l2
  exact put_plcd hC hN hd _ 0 _ rfl (by omega) (l1.trans List.length_replicate) (l2.trans List.length_replicate) hs
end Go.Proofs.Ytindllmeeckfcaa.rv
namespace Go.Proofs.Ytindllmeeckfcaa.rv
set_option maxRecDepth 10000
open Go.RV
structure Lay (a : Ar) (S : List Pt) (M K : List Bx) : Prop where
  hC : okC a.C a.C.length
  hN : ∀ v, v < a.N.length → -1 ≤ nC a.N v ∧ nC a.N v < a.C.length
  he : ∀ c : Int, -1 ≤ c → c < a.C.length → a.e S c = 0
  hS : ∀ c : Nat, c < a.C.length → S.getD c pz = a.z S c
  hB : ∀ b ∈ a.B, bxQ b = true
  hm : 0 ≤ a.m ∧ a.m ≤ 1048576
  bl : a.B.length = a.N.length
  pl : Plcd a S M K a.C.length
def apt (g : Int) (X Y : Bx) : Prop := aprt g X Y ∨ aprt g Y X
theorem apt_sub {g : Int} {X Y X' Y' : Bx} (hX : subQ X X') (hY : subQ Y Y') (h : apt g X' Y') : apt g X Y := by
  unfold apt aprt subQ at *
  omega
theorem ovQ_apt {g : Int} (hg : 0 ≤ g) {X Y : Bx} (h : apt g X Y) : ovQ X Y = false := by
  rw [Bool.eq_false_iff]
  intro h1
  simp only [ovQ, Bool.and_eq_true, decide_eq_true_eq] at h1
  unfold apt aprt at h
  omega
theorem P_at {a : Ar} {S : List Pt} {c : Int} {i k : Nat} (h : (heads a.N a.C c)[i]? = some (k : Int)) : (a.P S c).getD i pz = S.getD k pz := by
  show (partP a.N a.C a.B S c).getD i pz = _
  unfold heads at h
  unfold partP
  have key : ∀ i, ((kidL a.C c).map fun k : Nat => (k : Int))[i]? = some (k : Int) → ((kidL a.C c).map fun k => S.getD k pz)[i]? = some (S.getD k pz) := fun i h => by
    rw [List.getElem?_map] at h
    rw [List.getElem?_map]
    cases hk : (kidL a.C c)[i]? with
    | none => rw [hk] at h; simp at h
    | some k' =>
      rw [hk] at h
      simp only [Option.map_some, Option.some.injEq] at h
      have : k' = k := by omega
      subst this
      rfl
  split at h
  · rename_i h0
    rw [if_pos h0]
    cases i with
    | zero =>
      simp only [List.singleton_append, List.getElem?_cons_zero, Option.some.injEq] at h
      omega
    | succ i =>
      simp only [List.singleton_append, List.getElem?_cons_succ] at h
      show ([extQ (blk a.N a.B c)] ++ _)[i + 1]?.getD pz = _
      rw [List.singleton_append, List.getElem?_cons_succ, key i h]
      rfl
  · rename_i h0
    rw [if_neg h0]
    rw [List.nil_append] at h ⊢
    show (List.map _ _)[i]?.getD pz = _
    rw [key i h]
    rfl
theorem P_own {a : Ar} {S : List Pt} {c : Int} (h : 0 < (ownL a.N c).length) : (a.P S c).getD 0 pz = extQ (blkB a.B (ownL a.N c)) := by
  show (partP a.N a.C a.B S c).getD 0 pz = _
  unfold partP
  rw [if_pos h]
  rfl
theorem head_own {a : Ar} {c : Int} (h : 0 < (ownL a.N c).length) : (heads a.N a.C c)[0]? = some (-1) := by
  unfold heads
  rw [if_pos h]
  rfl
section
variable {a : Ar} {S : List Pt} {M K : List Bx} (h : Lay a S M K)
include h
theorem Lay.spec {c : Int} (h1 : -1 ≤ c) (h2 : c < a.C.length) : szds (a.P S c) (best (a.P S c) a.ns) ∧ (best (a.P S c) a.ns).Pairwise (aprt a.ns) := ⟨(best_spec (h.he c h1 h2)).1, (best_spec (h.he c h1 h2)).2.1⟩
omit h in
theorem head_lt {c : Int} {i : Nat} {k : Int} (hi : (heads a.N a.C c)[i]? = some k) : i < (best (a.P S c) a.ns).length ∧ i < (a.P S c).length := by
  have h1 := heads_len a.N a.C a.B S c
  have h2 := best_len (a.P S c) a.ns
  have h3 : (a.P S c).length = (partP a.N a.C a.B S c).length := rfl
  obtain ⟨h4, _⟩ := List.getElem?_eq_some_iff.1 hi
  omega
theorem Lay.par {k : Nat} (hk : k < a.C.length) : -1 ≤ cP a.C k ∧ cP a.C k < k := h.hC k hk
theorem Lay.kid {k : Nat} (hk : k < a.C.length) : ∃ i, (heads a.N a.C (cP a.C k))[i]? = some (k : Int) ∧ K.getD k z4 = PB a S K (cP a.C k) i := h.pl.kid k hk (by have := h.par hk; omega)
theorem Lay.inside {c : Nat} (hc : c < a.C.length) {i : Nat} {k : Int} (hi : (heads a.N a.C c)[i]? = some k) :
    subQ (PB a S K c i) ((K.getD c z4).1 + a.m, (K.getD c z4).2.1 + a.m, (K.getD c z4).2.2.1 - a.m, (K.getD c z4).2.2.2 - a.m) := by
  have hp := h.par hc
  obtain ⟨j, hj, hK⟩ := h.kid hc
  have s1 := szds_get (h.spec hp.1 (by omega)).1 j (head_lt hj).2
  rw [P_at hj, h.hS c hc] at s1
  have hec := h.he c (by omega) (by omega)
  have h0 := best_at0 hec
  have hu := uni_sub (l := best (a.P S c) a.ns) (fun q hq => best_ok hec hq) (getD_mem z4 (head_lt (S := S) hi).1)
  unfold PB at hK ⊢
  have ho : orgP a.m K (c : Int) = ((K.getD c z4).1 + a.m, (K.getD c z4).2.1 + a.m) := by
    unfold orgP
    rw [if_neg (by omega), Int.toNat_natCast]
  rw [ho]
  generalize K.getD c z4 = q at *
  generalize (best (a.P S (cP a.C c)) a.ns).getD j z4 = r at *
  generalize (best (a.P S c) a.ns).getD i z4 = b at *
  generalize orgP a.m K (cP a.C c) = w at *
  unfold szd Ar.z extQ at s1
  generalize uni (best (a.P S c) a.ns) = u at *
  subst hK
  unfold subQ shQ at *
  simp only at *
  omega
theorem Lay.fit {c : Nat} (hc : c < a.C.length) {i : Nat} {k : Int} (hi : (heads a.N a.C c)[i]? = some k) : subQ (PB a S K c i) (K.getD c z4) := by
  have h1 := h.inside hc hi
  have hm := h.hm
  unfold subQ at *
  simp only at h1
  omega
theorem Lay.own {v : Nat} (hv : v < a.N.length) : 0 < (ownL a.N (nC a.N v)).length := have _ := h.hm; List.length_pos_of_mem (mem_pick.2 ⟨hv, beq_iff_eq.2 rfl⟩ : v ∈ ownL a.N (nC a.N v))
theorem Lay.nod {v : Nat} (hv : v < a.N.length) : M.getD v z4 = shQ (a.B.getD v z4) (mvX a S K (nC a.N v)) (mvY a S K (nC a.N v)) := h.pl.nod v hv (h.hN v hv).2
theorem Lay.node {v : Nat} (hv : v < a.N.length) : subQ (M.getD v z4) (PB a S K (nC a.N v) 0) := by
  have hn := h.hN v hv
  have h0 := h.own hv
  have hh := head_own (a := a) h0
  have s1 := szds_get (h.spec hn.1 hn.2).1 0 (head_lt hh).2
  rw [P_own h0] at s1
  have hu : subQ (a.B.getD v z4) (blkB a.B (ownL a.N (nC a.N v))) := by
    refine uni_sub (fun q hq => ?_) (List.mem_map_of_mem (mem_pick.2 ⟨hv, beq_iff_eq.2 rfl⟩ : v ∈ ownL a.N (nC a.N v)))
    obtain ⟨w, hw, rfl⟩ := List.mem_map.1 hq
    have hw' := (mem_pick.1 hw).1
    exact h.hB _ (getD_mem z4 (by rw [h.bl]; exact hw'))
  rw [h.nod hv]
  unfold PB mvX mvY
  generalize (best (a.P S (nC a.N v)) a.ns).getD 0 z4 = b at *
  generalize orgP a.m K (nC a.N v) = w at *
  generalize blkB a.B (ownL a.N (nC a.N v)) = u at *
  generalize a.B.getD v z4 = q at *
  unfold szd extQ at s1
  unfold subQ shQ at *
  simp only at *
  omega
theorem Lay.apt {c : Int} (h1 : -1 ≤ c) (h2 : c < a.C.length) {i j : Nat} {k l : Int} (hi : (heads a.N a.C c)[i]? = some k) (hj : (heads a.N a.C c)[j]? = some l) (hij : i ≠ j) : apt a.ns (PB a S K c i) (PB a S K c j) := by
  have hp := List.pairwise_iff_getElem.1 (h.spec h1 h2).2
  have li := (head_lt (S := S) hi).1
  have lj := (head_lt (S := S) hj).1
  have ei : (best (a.P S c) a.ns).getD i z4 = (best (a.P S c) a.ns)[i] := by simp [List.getD, li]
  have ej : (best (a.P S c) a.ns).getD j z4 = (best (a.P S c) a.ns)[j] := by simp [List.getD, lj]
  unfold PB
  rw [ei, ej]
  rcases Nat.lt_or_gt_of_ne hij with hlt | hlt
  · have := hp i j li lj hlt
    unfold rv.apt
    unfold aprt shQ at *
    simp only
    omega
  · have := hp j i lj li hlt
    unfold rv.apt
    unfold aprt shQ at *
    simp only
    omega
theorem Lay.sep (c d : Int) (i j : Nat) (h1 h2 : Int) (X Y : Bx) (hc1 : -1 ≤ c) (hc2 : c < a.C.length) (hd1 : -1 ≤ d) (hd2 : d < a.C.length) (hi : (heads a.N a.C c)[i]? = some h1) (hj : (heads a.N a.C d)[j]? = some h2)
    (hX : subQ X (PB a S K c i)) (hY : subQ Y (PB a S K d j)) (hne : c = d → i ≠ j) (hh1 : h1 ∉ around a.C d) (hh2 : h2 ∉ around a.C c) : rv.apt a.ns X Y := by
  by_cases heq : c = d
  · subst heq
    exact apt_sub hX hY (h.apt hc1 hc2 hi hj (hne rfl))
  · by_cases hlt : c < d
    · have hdn : d.toNat < a.C.length := by omega
      have hdd : ((d.toNat : Nat) : Int) = d := by omega
      have hp := h.par hdn
      obtain ⟨j', hj', hK⟩ := h.kid hdn
      have hj2 : (heads a.N a.C ((d.toNat : Nat) : Int))[j]? = some h2 := by rw [hdd]; exact hj
      have hf := h.fit hdn hj2
      rw [hK, hdd] at hf
      have har : around a.C d = d :: around a.C (cP a.C d.toNat) := ar_at h.hC (by omega) hd2
      rw [har] at hh1
      refine Lay.sep c (cP a.C d.toNat) i j' h1 ((d.toNat : Nat) : Int) X Y hc1 hc2 hp.1 (by omega) hi hj' hX (hY.trans hf) (fun e hij => ?_) (fun hm => hh1 (List.mem_cons_of_mem _ hm)) (fun hm => ?_)
      · subst hij
        rw [← e, hi] at hj'
        simp only [Option.some.injEq] at hj'
        exact hh1 (by rw [hj', hdd]; exact List.mem_cons_self)
      · have := (ar_mem h.hC (c + 1).toNat c (by omega) hc2 _ hm).2
        omega
    · have hcn : c.toNat < a.C.length := by omega
      have hcc : ((c.toNat : Nat) : Int) = c := by omega
      have hp := h.par hcn
      obtain ⟨i', hi', hK⟩ := h.kid hcn
      have hi2 : (heads a.N a.C ((c.toNat : Nat) : Int))[i]? = some h1 := by rw [hcc]; exact hi
      have hf := h.fit hcn hi2
      rw [hK, hcc] at hf
      have har : around a.C c = c :: around a.C (cP a.C c.toNat) := ar_at h.hC (by omega) hc2
      rw [har] at hh2
      refine Lay.sep (cP a.C c.toNat) d i' j ((c.toNat : Nat) : Int) h2 X Y hp.1 (by omega) hd1 hd2 hi' hj (hX.trans hf) hY (fun e hij => ?_) (fun hm => ?_) (fun hm => hh2 (List.mem_cons_of_mem _ hm))
      · subst hij
        rw [e, hj] at hi'
        simp only [Option.some.injEq] at hi'
        exact hh2 (by rw [hi', hcc]; exact List.mem_cons_self)
      · have := (ar_mem h.hC (d + 1).toNat d (by omega) hd2 _ hm).2
        omega
termination_by (c + d + 2).toNat
decreasing_by all_goals omega
theorem Lay.nsp : 0 ≤ a.ns ∧ a.ns ≤ 1048576 := (cerr_ok (h.he (-1) (by omega) (by omega))).2.2.1
theorem Lay.out (hM : M.length = a.N.length) (hK : K.length = a.C.length) (hov : anyN (ovN a.B) a.B.length = false) (g : Gd) (hgN : g.N = a.N) (hgC : g.C = a.C) : overB g M K = false := by
  have hneg : ∀ d : Int, d < a.C.length → (-1 : Int) ∉ around a.C d := fun d hd hm => by
    have := (ar_mem h.hC (d + 1).toNat d (by omega) hd _ hm).1
    omega
  have hns := h.nsp.1
  unfold overB
  rw [Bool.or_eq_false_iff]
  refine ⟨anyN_false.2 fun i hi => anyN_false.2 fun k hk => ?_, anyN_false.2 fun c hc => ?_⟩
  · show ovQ (M.getD k z4) (M.getD i z4) = false
    have hiN : i < a.N.length := by omega
    have hkN : k < a.N.length := by omega
    have ni := h.hN i hiN
    have nk := h.hN k hkN
    by_cases he : nC a.N k = nC a.N i
    · have e1 := h.nod hkN
      have e2 := h.nod hiN
      rw [he] at e1
      have h3 : ovQ (a.B.getD k z4) (a.B.getD i z4) = false := anyN_false.1 (anyN_false.1 hov i (by rw [h.bl]; exact hiN)) k hk
      rw [Bool.eq_false_iff]
      intro h4
      rw [e1, e2] at h4
      have hb1 := h.hB _ (getD_mem z4 (show k < a.B.length by rw [h.bl]; exact hkN))
      have hb2 := h.hB _ (getD_mem z4 (show i < a.B.length by rw [h.bl]; exact hiN))
      rw [Bool.eq_false_iff] at h3
      refine h3 ?_
      simp only [ovQ, Bool.and_eq_true, decide_eq_true_eq] at h4 ⊢
      refine ⟨⟨⟨hb1, hb2⟩, ?_⟩, ?_⟩
      · have := h4.1.2
        unfold shQ at this
        simp only at this
        omega
      · have := h4.2
        unfold shQ at this
        simp only at this
        omega
    · exact ovQ_apt hns (h.sep _ _ 0 0 _ _ _ _ nk.1 nk.2 ni.1 ni.2 (head_own (h.own hkN)) (head_own (h.own hiN)) (h.node hkN) (h.node hiN) (fun e => absurd e he) (hneg _ ni.2) (hneg _ nk.2))
  · have hcC : c < a.C.length := by omega
    have pc := h.par hcC
    obtain ⟨i, hi, hKc⟩ := h.kid hcC
    unfold mixAny
    rw [Bool.or_eq_false_iff]
    refine ⟨anyN_false.2 fun v hv => ?_, anyN_false.2 fun d hd => ?_⟩
    · have hvN : v < a.N.length := by omega
      have nv := h.hN v hvN
      unfold mixN
      by_cases hin : inN g.N g.C c v = true
      · rw [hin]; rfl
      · have hnm : (c : Int) ∉ around a.C (nC a.N v) := fun hm => hin (by
          unfold inN
          rw [hgN, hgC, Bool.or_eq_true]
          exact .inr (List.contains_iff_mem.2 hm))
        rw [ovQ_apt hns (h.sep (nC a.N v) (cP a.C c) 0 i (-1) c (M.getD v z4) (K.getD c z4) nv.1 nv.2 pc.1 (by omega) (head_own (h.own hvN)) hi (h.node hvN) (by rw [hKc]; exact subQ_refl _) (fun e hij => ?_) (hneg _ (by omega)) hnm), Bool.and_false]
        subst hij
        rw [← e, head_own (h.own hvN)] at hi
        simp only [Option.some.injEq] at hi
        omega
    · have hdC : d < a.C.length := by omega
      have pd := h.par hdC
      obtain ⟨j, hj, hKd⟩ := h.kid hdC
      unfold mixC
      rw [hgC]
      cases h1 : lies a.C c d
      · cases h2 : lies a.C d c
        · have m1 : (d : Int) ∉ around a.C c := fun hm => by
            have := List.contains_iff_mem.2 hm
            unfold lies at h1
            rw [this] at h1
            cases h1
          have m2 : (c : Int) ∉ around a.C d := fun hm => by
            have := List.contains_iff_mem.2 hm
            unfold lies at h2
            rw [this] at h2
            cases h2
          have arc : around a.C (c : Int) = (c : Int) :: around a.C (cP a.C c) := ar_at h.hC (by omega) (by omega)
          have ard : around a.C (d : Int) = (d : Int) :: around a.C (cP a.C d) := ar_at h.hC (by omega) (by omega)
          rw [arc] at m1
          rw [ard] at m2
          rw [ovQ_apt hns (h.sep (cP a.C d) (cP a.C c) j i d c (K.getD d z4) (K.getD c z4) pd.1 (by omega) pc.1 (by omega) hj hi (by rw [hKd]; exact subQ_refl _) (by rw [hKc]; exact subQ_refl _) (fun e hij => ?_) (fun hm => m1 (List.mem_cons_of_mem _ hm)) (fun hm => m2 (List.mem_cons_of_mem _ hm))), Bool.and_false]
          subst hij
          rw [e, hi] at hj
          simp only [Option.some.injEq] at hj
          omega
        · rfl
      · rfl
end
end Go.Proofs.Ytindllmeeckfcaa.rv
namespace Go.Proofs.Ytindllmeeckfcaa.rv
set_option maxRecDepth 10000
open Go.RV
theorem loopM7_1 : LoopMeets Try.prog F (R L7_1.key) L7_1 lb7_1 := by
  refine loop_meets (pre := R) mixed (sgAt_all (P := Try.prog) (pre := R) (Φ := F) (l := sg7) (List.forall_mem_cons.2 ⟨Meets.at (pre := R) (Φ := F) m8, List.forall_mem_cons.2 ⟨Meets.at (pre := R) (Φ := F) m9, List.forall_mem_cons.2 ⟨Meets.at (pre := R) (Φ := F) m10, List.forall_mem_cons.2 ⟨Meets.at (pre := R) (Φ := F) m17, List.forall_mem_cons.2 ⟨Meets.at (pre := R) (Φ := F) m18, (fun _ h => nomatch h)⟩⟩⟩⟩⟩)) (loops_n 0 lk7_1 fun k hk => by omega) L7_1 (fun ρ => (((ρ.getD 1 default).lst.length : Int) - (ρ.getD 3 default).int).toNat) le7_1 fun ρ _ hq => ?_
  obtain ⟨v, M, i, g, w, j, rfl, hj, hM, h64, hi⟩ : prW1' ρ := hq
  by_cases hlt : j < M.length
  · simp (disch := omega) only [rt7_1, VT.ok, Nd.holds, X.outs, X.ds, X.d, Op1.ev, Op2.ev, takeD_zero, takeD_cons, List.cons_append, List.nil_append, List.getD_cons_zero, List.getD_cons_succ, D.int_i, D.bool_b, D.lst_l, ite_b, ite_and, Int.toNat_natCast, List.length_map, implies_true, true_and, F18, R18, ↓reduceIte, dle_t, dlt_t, w64', rowQz, encQ, fn18_eq]
    show if nrN g.N M (cP g.C i) w j = true then _ else _
    cases hb : nrN g.N M (cP g.C i) w j
    · simp only [Bool.false_eq_true, if_false]
      refine round_next ⟨⟨v, M, i, g, w, j + 1, rfl, by omega, hM, h64, hi⟩, ?_, ?_⟩
      · show (((M.map encQ).length : Int) - ((j + 1 : Nat) : Int)).toNat < (((M.map encQ).length : Int) - (j : Int)).toNat
        rw [List.length_map]; omega
      · show lpW1' [v, .l (M.map encQ), .i (i : Int), .i ((j + 1 : Nat) : Int), .s g.nm, .b g.dr, .l g.N, .l g.E, .l g.C, .i w.1, .i w.2.1, .i w.2.2.1, .i w.2.2.2] = lpW1' [v, .l (M.map encQ), .i (i : Int), .i (j : Int), .s g.nm, .b g.dr, .l g.N, .l g.E, .l g.C, .i w.1, .i w.2.1, .i w.2.2.1, .i w.2.2.2]
        simp only [lpW1', map_decQ, List.length_map, scB, Int.toNat_natCast]
        exact scan_next hlt hb
    · simp only [if_true]
      refine round_exit (by omega) ?_
      show lpW1' [v, .l (M.map encQ), .i (i : Int), .i (j : Int), .s g.nm, .b g.dr, .l g.N, .l g.E, .l g.C, .i w.1, .i w.2.1, .i w.2.2.1, .i w.2.2.2] = _
      simp only [lpW1', map_decQ, List.length_map, scB, Int.toNat_natCast]
      exact scan_hit hlt hb
  · have hj' : j = M.length := by omega
    subst hj'
    simp (disch := omega) only [rt7_1, VT.ok, X.ds, X.d, Op1.ev, Op2.ev, List.getD_cons_zero, List.getD_cons_succ, D.int_i, D.bool_b, D.lst_l, List.length_map, Bool.false_eq_true, ↓reduceIte, dlt_f]
    refine round_exit (by omega) ?_
    show lpW1' [v, .l (M.map encQ), .i (i : Int), .i (M.length : Int), .s g.nm, .b g.dr, .l g.N, .l g.E, .l g.C, .i w.1, .i w.2.1, .i w.2.2.1, .i w.2.2.2] = _
    simp only [lpW1', map_decQ, List.length_map, scB, Int.toNat_natCast]
    exact scan_end
theorem loopM7_2 : LoopMeets Try.prog F (R L7_2.key) L7_2 lb7_2 := by
  refine loop_meets (pre := R) mixed (sgAt_all (P := Try.prog) (pre := R) (Φ := F) (l := sg7) (List.forall_mem_cons.2 ⟨Meets.at (pre := R) (Φ := F) m8, List.forall_mem_cons.2 ⟨Meets.at (pre := R) (Φ := F) m9, List.forall_mem_cons.2 ⟨Meets.at (pre := R) (Φ := F) m10, List.forall_mem_cons.2 ⟨Meets.at (pre := R) (Φ := F) m17, List.forall_mem_cons.2 ⟨Meets.at (pre := R) (Φ := F) m18, (fun _ h => nomatch h)⟩⟩⟩⟩⟩)) (loops_n 0 lk7_2 fun k hk => by omega) L7_2 (fun ρ => ((ρ.getD 2 default).int - (ρ.getD 3 default).int).toNat) le7_2 fun ρ _ hq => ?_
  obtain ⟨v, K, i, g, w, j, rfl, hj, hi, hK, h16⟩ : prW2' ρ := hq
  by_cases hlt : j < i
  · simp (disch := omega) only [rt7_2, VT.ok, Nd.holds, X.outs, X.ds, X.d, Op1.ev, Op2.ev, takeD_zero, takeD_cons, List.cons_append, List.nil_append, List.getD_cons_zero, List.getD_cons_succ, D.int_i, D.bool_b, D.lst_l, ite_b, ite_and, Int.toNat_natCast, List.length_map, implies_true, true_and, F18, R18, ↓reduceIte, dle_t, dlt_t, w64', rowQz, encQ, List.length_map, fn18_eq]
    show if nrC g.C K (cP g.C i) w j = true then _ else _
    cases hb : nrC g.C K (cP g.C i) w j
    · simp only [Bool.false_eq_true, if_false]
      refine round_next ⟨⟨v, K, i, g, w, j + 1, rfl, by omega, hi, hK, h16⟩, ?_, ?_⟩
      · show ((i : Int) - ((j + 1 : Nat) : Int)).toNat < ((i : Int) - (j : Int)).toNat
        omega
      · show lpW2' [v, .l (K.map encQ), .i (i : Int), .i ((j + 1 : Nat) : Int), .s g.nm, .b g.dr, .l g.N, .l g.E, .l g.C, .i w.1, .i w.2.1, .i w.2.2.1, .i w.2.2.2] = lpW2' [v, .l (K.map encQ), .i (i : Int), .i (j : Int), .s g.nm, .b g.dr, .l g.N, .l g.E, .l g.C, .i w.1, .i w.2.1, .i w.2.2.1, .i w.2.2.2]
        simp only [lpW2', map_decQ, scB, Int.toNat_natCast]
        exact scan_next hlt hb
    · simp only [if_true]
      refine round_exit (by omega) ?_
      show lpW2' [v, .l (K.map encQ), .i (i : Int), .i (j : Int), .s g.nm, .b g.dr, .l g.N, .l g.E, .l g.C, .i w.1, .i w.2.1, .i w.2.2.1, .i w.2.2.2] = _
      simp only [lpW2', map_decQ, scB, Int.toNat_natCast]
      exact scan_hit hlt hb
  · have hj' : j = i := by omega
    subst hj'
    simp (disch := omega) only [rt7_2, VT.ok, X.ds, X.d, Op2.ev, List.getD_cons_zero, List.getD_cons_succ, D.int_i, D.bool_b, Bool.false_eq_true, ↓reduceIte, dlt_f]
    refine round_exit (by omega) ?_
    show lpW2' [v, .l (K.map encQ), .i (j : Int), .i (j : Int), .s g.nm, .b g.dr, .l g.N, .l g.E, .l g.C, .i w.1, .i w.2.1, .i w.2.2.1, .i w.2.2.2] = _
    simp only [lpW2', map_decQ, scB, Int.toNat_natCast]
    exact scan_end
theorem lpW1_eq (v : D) (M : List Bx) (i : Nat) (g : Gd) (w : Bx) : lpW1' [v, .l (M.map encQ), .i (i : Int), .i 0, .s g.nm, .b g.dr, .l g.N, .l g.E, .l g.C, .i w.1, .i w.2.1, .i w.2.2.1, .i w.2.2.2] = scanN (nrN g.N M (cP g.C i) w) (fun j => [.i 0, .b false, .i (j : Int)]) (fun j => [.i 1, v, .i (j : Int)]) M.length 0 := by
  simp only [lpW1', map_decQ, List.length_map, scB, Int.toNat_natCast, Int.toNat_zero, Nat.sub_zero]
theorem lpW2_eq (v : D) (K : List Bx) (i : Nat) (g : Gd) (w : Bx) : lpW2' [v, .l (K.map encQ), .i (i : Int), .i 0, .s g.nm, .b g.dr, .l g.N, .l g.E, .l g.C, .i w.1, .i w.2.1, .i w.2.2.1, .i w.2.2.2] = scanN (nrC g.C K (cP g.C i) w) (fun j => [.i 0, .b false, .i (j : Int)]) (fun j => [.i 1, v, .i (j : Int)]) i 0 := by
  simp only [lpW2', map_decQ, scB, Int.toNat_natCast, Int.toNat_zero, Nat.sub_zero]
theorem lpW0_eq (v : D) (M K : List Bx) (g : Gd) (o : Od) (j : Nat) : lpW0' [v, .l (M.map encQ), .l (K.map encQ), .i (j : Int), .s g.nm, .b g.dr, .l g.N, .l g.E, .l g.C, .i o.md, .i o.ns, .i o.rs, .i o.m, .i o.rd] = scanN (nrAny g.N g.C M K o.ns) (fun j => [.i 0, .b false, .i (j : Int)]) (fun j => [.i 1, v, .i (j : Int)]) (K.length - j) j := by
  simp only [lpW0', map_decQ, List.length_map, scB, Int.toNat_natCast]
theorem loopM7_0 : LoopMeets Try.prog F (R L7_0.key) L7_0 lb7_0 := by
  refine loop_meets (pre := R) mixed (sgAt_all (P := Try.prog) (pre := R) (Φ := F) (l := sg7) (List.forall_mem_cons.2 ⟨Meets.at (pre := R) (Φ := F) m8, List.forall_mem_cons.2 ⟨Meets.at (pre := R) (Φ := F) m9, List.forall_mem_cons.2 ⟨Meets.at (pre := R) (Φ := F) m10, List.forall_mem_cons.2 ⟨Meets.at (pre := R) (Φ := F) m17, List.forall_mem_cons.2 ⟨Meets.at (pre := R) (Φ := F) m18, (fun _ h => nomatch h)⟩⟩⟩⟩⟩)) (loops_n 2 lk7_0 fun k hk => match k, hk with | 0, _ => by rw [li7_0_0]; exact loop_this lf7_1 loopM7_1 | 1, _ => by rw [li7_0_1]; exact loop_this lf7_2 loopM7_2) L7_0 (fun ρ => (((ρ.getD 2 default).lst.length : Int) - (ρ.getD 3 default).int).toNat) le7_0 fun ρ _ hq => ?_
  obtain ⟨v, M, K, g, o, j, rfl, hj, hK, h16, hM, h64, hns, hs⟩ : prW0' ρ := hq
  by_cases hlt : j < K.length
  · have hhit : nrAny g.N g.C M K o.ns j = true → RoundOk F (R L7_0.key) (fun ρ => (((ρ.getD 2 default).lst.length : Int) - (ρ.getD 3 default).int).toNat) L7_0 [v, .l (M.map encQ), .l (K.map encQ), .i (j : Int), .s g.nm, .b g.dr, .l g.N, .l g.E, .l g.C, .i o.md, .i o.ns, .i o.rs, .i o.m, .i o.rd] [.i 0, .b false, .i (j : Int)] := fun h => by
      refine round_exit (by omega) ?_
      rw [show F L7_0.key = lpW0' from rfl, lpW0_eq]
      exact scan_hit hlt h
    have hmiss : nrAny g.N g.C M K o.ns j = false → RoundOk F (R L7_0.key) (fun ρ => (((ρ.getD 2 default).lst.length : Int) - (ρ.getD 3 default).int).toNat) L7_0 [v, .l (M.map encQ), .l (K.map encQ), .i (j : Int), .s g.nm, .b g.dr, .l g.N, .l g.E, .l g.C, .i o.md, .i o.ns, .i o.rs, .i o.m, .i o.rd] [.i (-1), v, .i ((j + 1 : Nat) : Int)] := fun h => by
      refine round_next ⟨⟨v, M, K, g, o, j + 1, rfl, by omega, hK, h16, hM, h64, hns, hs⟩, ?_, ?_⟩
      · show (((K.map encQ).length : Int) - ((j + 1 : Nat) : Int)).toNat < (((K.map encQ).length : Int) - (j : Int)).toNat
        rw [List.length_map]; omega
      · show lpW0' [v, .l (M.map encQ), .l (K.map encQ), .i ((j + 1 : Nat) : Int), .s g.nm, .b g.dr, .l g.N, .l g.E, .l g.C, .i o.md, .i o.ns, .i o.rs, .i o.m, .i o.rd] = lpW0' [v, .l (M.map encQ), .l (K.map encQ), .i (j : Int), .s g.nm, .b g.dr, .l g.N, .l g.E, .l g.C, .i o.md, .i o.ns, .i o.rs, .i o.m, .i o.rd]
        rw [lpW0_eq, lpW0_eq]
        exact scan_next hlt h
    have hq := hs _ (getD_mem z4 hlt)
    unfold smQ at hq
    have w1 : IntKind.i64.wrap ((K.getD j z4).1 - o.ns) = (wideQ (K.getD j z4) o.ns).1 := w64 (by omega)
    have w2 : IntKind.i64.wrap ((K.getD j z4).2.1 - o.ns) = (wideQ (K.getD j z4) o.ns).2.1 := w64 (by omega)
    have w3 : IntKind.i64.wrap ((K.getD j z4).2.2.1 + o.ns) = (wideQ (K.getD j z4) o.ns).2.2.1 := w64 (by omega)
    have w4 : IntKind.i64.wrap ((K.getD j z4).2.2.2 + o.ns) = (wideQ (K.getD j z4) o.ns).2.2.2 := w64 (by omega)
    have hv : fn17 [.i (wideQ (K.getD j z4) o.ns).1, .i (wideQ (K.getD j z4) o.ns).2.1, .i (wideQ (K.getD j z4) o.ns).2.2.1, .i (wideQ (K.getD j z4) o.ns).2.2.2] = [.b (bxQ (wideQ (K.getD j z4) o.ns))] := fn17_eq _ _ _ _
    simp (disch := omega) only [rt7_0, VT.ok, Nd.holds, X.outs, X.ds, X.d, Op1.ev, Op2.ev, takeD_zero, takeD_cons, List.cons_append, List.nil_append, List.getD_cons_zero, List.getD_cons_succ, D.int_i, D.bool_b, D.lst_l, Int.toNat_natCast, List.length_map, implies_true, true_and, F17, R17, F10700, R10700, F10701, R10701, ↓reduceIte, dle_t, dlt_t, w64', rowQz, encQ, w1, w2, w3, w4, hv, lpW1_eq]
    cases h0 : bxQ (wideQ (K.getD j z4) o.ns)
    · simp only [Bool.not_false, if_true]
      exact hmiss (by rw [nrAny, h0]; rfl)
    · simp only [Bool.not_true, Bool.false_eq_true, if_false]
      refine ⟨fun _ => ⟨v, M, j, g, wideQ (K.getD j z4) o.ns, 0, rfl, by omega, hM, h64, by omega⟩, ?_⟩
      rcases scan_any (p := nrN g.N M (cP g.C j) (wideQ (K.getD j z4) o.ns)) (hit := fun j => [D.i 0, .b false, .i (j : Int)]) (miss := fun j => [D.i 1, v, .i (j : Int)]) M.length with ⟨h1, k, _, _, _, h2⟩ | ⟨h1, h2⟩
      · rw [h2]
        simp only [takeD_zero, takeD_cons, List.cons_append, List.nil_append, List.getD_cons_zero, List.getD_cons_succ, D.int_i, if_true, show ((0 : Int) == 0) = true from rfl]
        exact hhit (by rw [nrAny, h0, h1]; rfl)
      · rw [h2]
        simp only [takeD_zero, takeD_cons, List.cons_append, List.nil_append, List.getD_cons_zero, List.getD_cons_succ, D.int_i, Bool.false_eq_true, if_false, show ((1 : Int) == 0) = false from rfl, lpW2_eq]
        refine ⟨fun _ => ⟨v, K, j, g, wideQ (K.getD j z4) o.ns, 0, rfl, by omega, by omega, hK, h16⟩, ?_⟩
        rcases scan_any (p := nrC g.C K (cP g.C j) (wideQ (K.getD j z4) o.ns)) (hit := fun j => [D.i 0, .b false, .i (j : Int)]) (miss := fun j => [D.i 1, v, .i (j : Int)]) j with ⟨h3, k, _, _, _, h4⟩ | ⟨h3, h4⟩
        · rw [h4]
          simp only [takeD_zero, takeD_cons, List.getD_cons_zero, List.getD_cons_succ, D.int_i, if_true, show ((0 : Int) == 0) = true from rfl]
          exact hhit (by rw [nrAny, h0, h1, h3]; rfl)
        · rw [h4]
          simp only [takeD_zero, takeD_cons, List.getD_cons_zero, List.getD_cons_succ, D.int_i, Bool.false_eq_true, if_false, show ((1 : Int) == 0) = false from rfl]
          exact hmiss (by rw [nrAny, h0, h1, h3]; rfl)
  · have hj : j = K.length := by omega
    subst hj
    simp (disch := omega) only [rt7_0, VT.ok, X.ds, X.d, Op1.ev, Op2.ev, List.getD_cons_zero, List.getD_cons_succ, D.int_i, D.bool_b, D.lst_l, List.length_map, Bool.false_eq_true, ↓reduceIte, dlt_f]
    refine round_exit (by omega) ?_
    rw [show F L7_0.key = lpW0' from rfl, lpW0_eq]
    exact scan_end
end Go.Proofs.Ytindllmeeckfcaa.rv
namespace Go.Proofs.Ytindllmeeckfcaa.rv
set_option maxRecDepth 10000
open Go.RV
theorem place_lay {g : Gd} {o : Od} {B M K : List Bx} (h : placeR g o B = ((M, K), 0)) : inE g o B = 0 ∧ M.length = g.N.length ∧ K.length = g.C.length ∧ badL M = false ∧ badL K = false ∧ ∃ S, Lay (arOf g o B) S M K := by
  unfold placeR at h
  split at h
  · rename_i h0
    refine ⟨h0, ?_⟩
    obtain ⟨h1, h2, h3, h4, h5⟩ := inE_ok h0
    obtain ⟨_, _, v3, v4⟩ := valid_okV h1
    have ho := Od.ok_iff.1 h2
    cases ha : (arOf g o B).all with
    | none =>
      rw [ha] at h
      simp only [Prod.mk.injEq] at h
      exact absurd h.2 (by decide)
    | some r =>
      obtain ⟨S, T⟩ := r
      rw [ha] at h
      have hd := all_done (a := arOf g o B) v3 ha
      simp only at h
      split at h
      · simp only [Prod.mk.injEq] at h
        exact absurd h.2 (by decide)
      · rename_i hb
        simp only [Prod.mk.injEq, and_true] at h
        have hb' := Bool.eq_false_iff.2 hb
        rw [h, Bool.or_eq_false_iff] at hb'
        have hN : ∀ v, v < (arOf g o B).N.length → -1 ≤ nC (arOf g o B).N v ∧ nC (arOf g o B).N v < (arOf g o B).C.length := v4
        have hpl := put_all (a := arOf g o B) v3 (fun v hv => (hN v hv).1) hd
        obtain ⟨l1, l2⟩ := put_len (arOf g o B) T _ 0 (put0 (arOf g o B) T) rfl (by omega)
        obtain ⟨l3, l4⟩ := pTs_len B (ownL g.N (-1)) 0 0 (T.getD g.C.length []) (List.replicate g.N.length z4, List.replicate g.C.length z4)
        have l5 : (put (arOf g o B) T).1.length = g.N.length := l1.trans (l3.trans List.length_replicate)
        have l6 : (put (arOf g o B) T).2.length = g.C.length := l2.trans (l4.trans List.length_replicate)
        rw [h] at hpl l5 l6
        exact ⟨l5, l6, hb'.1, hb'.2, S, v3, hN, fun c h1 h2 => hd.all_e h1 h2, fun c hc => (hd.at' c hc).2.2.1, badB_ok h4, ho.2.2.2.1, h3, hpl⟩
  · rename_i h0
    simp only [Prod.mk.injEq] at h
    exact absurd h.2 h0
theorem ovQ_wide {n : Int} {X Y : Bx} (h : apt n X Y) : ovQ (wideQ X n) Y = false := by
  rw [Bool.eq_false_iff]
  intro h1
  simp only [ovQ, Bool.and_eq_true, decide_eq_true_eq] at h1
  unfold wideQ at h1
  unfold apt aprt at h
  simp only at h1
  omega
theorem place_apart {g : Gd} {o : Od} {B M K : List Bx} (h : placeR g o B = ((M, K), 0)) : anyN (nrAny g.N g.C M K o.ns) K.length = false := by
  obtain ⟨h0, hM, hK, bM, bK, S, hL⟩ := place_lay h
  refine anyN_false.2 fun i hi => ?_
  have hiC : i < g.C.length := by omega
  have pi : -1 ≤ cP g.C i ∧ cP g.C i < i := hL.par (k := i) hiC
  obtain ⟨t, ht, hKi⟩ := hL.kid (k := i) hiC
  have ht' : (heads g.N g.C (cP g.C i))[t]? = some (i : Int) := ht
  have hKi' : K.getD i z4 = PB (arOf g o B) S K (cP g.C i) t := hKi
  have pC : cP g.C i < (arOf g o B).C.length := by show cP g.C i < (g.C.length : Int); omega
  have e1 : anyN (nrN g.N M (cP g.C i) (wideQ (K.getD i z4) o.ns)) M.length = false := anyN_false.2 fun k hk => by
    have hkN : k < g.N.length := by omega
    unfold nrN
    cases he : (nC g.N k == cP g.C i)
    · rfl
    · have he' := eq_of_beq he
      have hn : subQ (M.getD k z4) (PB (arOf g o B) S K (nC g.N k) 0) := hL.node (v := k) hkN
      have hh : (heads g.N g.C (nC g.N k))[0]? = some (-1) := head_own (a := arOf g o B) (hL.own (v := k) hkN)
      rw [he'] at hn hh
      have hne : t ≠ 0 := fun e => by
        subst e
        rw [hh] at ht'
        simp only [Option.some.injEq] at ht'
        omega
      have ha := hL.apt pi.1 pC ht' hh hne
      rw [Bool.true_and]
      exact ovQ_wide (apt_sub (by rw [hKi']; exact subQ_refl _) hn ha)
  have e2 : anyN (nrC g.C K (cP g.C i) (wideQ (K.getD i z4) o.ns)) i = false := anyN_false.2 fun k hk => by
    have hkC : k < g.C.length := by omega
    unfold nrC
    cases he : (cP g.C k == cP g.C i)
    · rfl
    · have he' := eq_of_beq he
      obtain ⟨u, hu, hKk⟩ := hL.kid (k := k) hkC
      have hu' : (heads g.N g.C (cP g.C k))[u]? = some (k : Int) := hu
      have hKk' : K.getD k z4 = PB (arOf g o B) S K (cP g.C k) u := hKk
      rw [he'] at hu' hKk'
      have hne : t ≠ u := fun e => by
        subst e
        rw [hu'] at ht'
        simp only [Option.some.injEq] at ht'
        omega
      have ha := hL.apt pi.1 pC ht' hu' hne
      rw [Bool.true_and]
      exact ovQ_wide (apt_sub (by rw [hKi']; exact subQ_refl _) (by rw [hKk']; exact subQ_refl _) ha)
  unfold nrAny
  rw [e1, e2, Bool.or_self, Bool.and_false]
theorem law7 : Meets Try.prog 7 S7 (fun _ => True) (fun _ => [.b true]) := by
  refine meets_of_vt (pre := R) (Φ := F) mixed (sgAt_all (P := Try.prog) (pre := R) (Φ := F) (l := sg7) (List.forall_mem_cons.2 ⟨Meets.at (pre := R) (Φ := F) m8, List.forall_mem_cons.2 ⟨Meets.at (pre := R) (Φ := F) m9, List.forall_mem_cons.2 ⟨Meets.at (pre := R) (Φ := F) m10, List.forall_mem_cons.2 ⟨Meets.at (pre := R) (Φ := F) m17, List.forall_mem_cons.2 ⟨Meets.at (pre := R) (Φ := F) m18, (fun _ h => nomatch h)⟩⟩⟩⟩⟩)) Try.func7 b7 n7 (loops_n 3 k7 fun k hk => match k, hk with | 0, _ => loop_this lf7_0 loopM7_0 | 1, _ => loop_this lf7_1 loopM7_1 | 2, _ => loop_this lf7_2 loopM7_2) e7 fun ds hf _ => ?_
  obtain ⟨g, o, B, ds', rfl, h0, hm, _⟩ := fitsGO hf.flat
  obtain rfl := fits0 h0
  have h1 : fewGP [.s g.nm, .b g.dr, .l g.N, .l g.E, .l g.C, .i 8, .i 6] := by show (8 : Int) ≤ 64 ∧ (6 : Int) ≤ 64; decide
  have hl1 := @place_lay g o B
  have hl3 := @place_apart g o B
  simp only [vt7, VT.ok, Nd.holds, X.outs, X.ds, X.d, Op1.ev, Op2.ev, takeD_zero, takeD_cons, List.cons_append, List.nil_append, List.getD_cons_zero, List.getD_cons_succ, D.int_i, D.bool_b, D.lst_l, ite_b, ite_or, List.length_map, implies_true, true_and, and_true, F10, R10, F8, R8, F9, R9, F10702, R10702, fewGD_eq, placeD_eq, one]
  refine ⟨fun _ => h1, ?_⟩
  generalize placeR g o B = PR at *
  obtain ⟨⟨M, K⟩, e⟩ := PR
  simp only at *
  split
  · trivial
  · by_cases he : e = 0
    · subst he
      obtain ⟨h0, hM, hK, bM, bK, S, hL⟩ := hl1 rfl
      obtain ⟨k1, k2, k3, k4, _⟩ := inE_ok h0
      have ho := Od.ok_iff.1 k2
      have hr := hl3 rfl
      have hv := valid_len k1
      have e0 := lpW0_eq (.b false) M K g o 0
      simp only [Int.natCast_zero, Nat.sub_zero] at e0
      have hMB : ((M.length : Int) == (g.N.length : Int)) = true := beq_t (by omega)
      have hKB : ((K.length : Int) == (g.C.length : Int)) = true := beq_t (by omega)
      simp only [hMB, hKB, show ((0 : Int) == 0) = true from rfl, Bool.not_true, Bool.false_eq_true, if_false, Bool.or_self, e0]
      refine ⟨fun _ => ⟨_, M, K, g, o, 0, rfl, by omega, by omega, by omega, by omega, by omega, by omega, fun q hq => smQ_of (badL_ok bK q hq)⟩, ?_⟩
      rcases scan_any (p := nrAny g.N g.C M K o.ns) (hit := fun j => [D.i 0, .b false, .i (j : Int)]) (miss := fun j => [D.i 1, .b false, .i (j : Int)]) K.length with ⟨a1, j, _, _, _, a2⟩ | ⟨a1, a2⟩
      · rw [hr] at a1; cases a1
      · rw [a2]
        simp only [takeD_zero, takeD_cons, List.cons_append, List.nil_append, List.getD_cons_zero, List.getD_cons_succ, D.int_i, Bool.false_eq_true, if_false, show ((1 : Int) == 0) = false from rfl]
    · have hb : (!(e == 0)) = true := by simp [he]
      simp only [hb, if_true]
end Go.Proofs.Ytindllmeeckfcaa.rv
