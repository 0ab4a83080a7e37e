/-
  Graphs: members, depths, common clusters.
  Graphs: chains of clusters, without a program.
  Graphs: common clusters; equal lists; skeletons.
  Graphs: equal lists and graphs; skeletons.
  Graphs: equal graphs.
-/
import Derived.Test.YthnilbkkihmpoaaRvGrB
namespace Go.Proofs.Ythnilbkkihmpoaa.rv
open Go.RV

theorem valid_parts {g : Gd} (h : validE g = 0) : (g.N.length ≤ 64 ∧ g.E.length ≤ 256 ∧ g.C.length ≤ 16) ∧ isName g.nm = true ∧ (∀ k, k < g.N.length → nodeE g.N g.C k = 0) ∧ (∀ k, k < g.C.length → cluE g.N g.C k = 0) ∧ ∀ k, k < g.E.length → edgeE g.N (el g.E k) = 0 := by
  unfold validE at h
  split at h
  · omega
  · split at h
    · split at h
      · rename_i h0 h1 h2
        split at h
        · rename_i h3
          exact ⟨by omega, h1, fe_ok.1 h2, fe_ok.1 h3, fe_ok.1 h⟩
        · omega
      · omega
    · omega
theorem node_cl {N C : List (List D)} {i : Nat} (h : nodeE N C i = 0) : -1 ≤ cI (el N i) 4 ∧ cI (el N i) 4 < C.length := by
  unfold nodeE at h
  split at h
  · split at h
    · omega
    · split at h
      · split at h
        · rename_i h1
          simp only [Bool.and_eq_true, Bool.not_eq_true', decide_eq_false_iff_not] at h1
          omega
        · omega
      · omega
  · omega
theorem valid_okV {g : Gd} (h : validE g = 0) : okV g := by
  obtain ⟨⟨h1, _, h3⟩, _, h4, h5, _⟩ := valid_parts h
  exact ⟨h1, h3, okC_of h5, fun v hv => node_cl (h4 v hv)⟩
theorem okV_at {g : Gd} (h : okV g) {c : Int} (h0 : -1 ≤ c) (h1 : c < g.C.length) : atC g.C c := ⟨h0, h1, h.2.1, h.2.2.1.mono (by omega)⟩

theorem fits_get : ∀ {cts : List CT} {x : List D}, FitsF cts x → ∀ {j : Nat} {ct : CT}, cts[j]? = some ct → Wf ct (x.getD j default)
  | [], [], _, j, ct, hj => by simp at hj
  | c :: cts, d :: ds, ⟨h, h'⟩, 0, ct, hj => by simp at hj; subst hj; exact h
  | c :: cts, d :: ds, ⟨h, h'⟩, j + 1, ct, hj => by simpa using fits_get h' (j := j) (by simpa using hj)
  | [], _ :: _, h, _, _, _ => h.elim
  | _ :: _, [], h, _, _, _ => h.elim
theorem row_i {N : List (List D)} {cts : List CT} (h : ∀ x ∈ N, FitsF cts x) {j : Nat} (hj : cts[j]? = some (.int .i64)) {i : Nat} (hi : i < N.length) : (el N i).getD j default = .i (cI (el N i) j) := by
  obtain ⟨z, e, _⟩ := wf_i64 (fits_get (h _ (getD_mem [] hi)) hj)
  simp only [cI]
  rw [e]; rfl

/-! ### has -/
theorem nat_of {x : D} {v : Nat} (e : x = .i (v : Int)) : x.int.toNat = v := by subst e; rfl
theorem any_map (l : List Int) (c : Int) : anyN (fun j => c == cI (el (l.map encI) j) 0) l.length = l.contains c := by
  rw [Bool.eq_iff_iff, anyN_iff, List.contains_iff_mem]
  have e : ∀ j, j < l.length → cI (el (l.map encI) j) 0 = l.getD j 0 := fun j hj => by
    simp only [cI, el]
    rw [rowI hj]; rfl
  constructor
  · rintro ⟨j, hj, h⟩
    rw [e j hj] at h
    have : c = l.getD j 0 := by simpa using h
    rw [this]
    exact getD_mem 0 hj
  · intro h
    obtain ⟨j, hj, rfl⟩ := List.mem_iff_getElem.1 h
    exact ⟨j, hj, by rw [e j hj]; simp [List.getD, hj]⟩
theorem valid_c {g : Gd} {c : Int} (h : ¬ (validE g = 0 ∧ -1 ≤ c ∧ c < g.C.length)) : ((!(validE g == 0) || decide (c < -1)) || decide ((g.C.length : Int) ≤ c)) = true := by
  simp only [Bool.or_eq_true, Bool.not_eq_true', beq_eq_false_iff_ne, decide_eq_true_eq]
  omega
theorem valid_c' {g : Gd} {c : Int} (h : validE g = 0 ∧ -1 ≤ c ∧ c < g.C.length) : ((!(validE g == 0) || decide (c < -1)) || decide ((g.C.length : Int) ≤ c)) = false := by
  simp only [Bool.or_eq_false_iff, Bool.not_eq_false', beq_iff_eq, decide_eq_false_iff_not]
  omega
theorem gOf_eq (g : Gd) (l : List D) : gOf (.s g.nm :: .b g.dr :: .l g.N :: .l g.E :: .l g.C :: l) = g := rfl
end Go.Proofs.Ythnilbkkihmpoaa.rv

namespace Go.Proofs.Ythnilbkkihmpoaa.rv
open Go.RV

section
variable {C : List (List D)} (hok : okC C C.length)
include hok
theorem ar_at {k : Int} (h0 : 0 ≤ k) (hk : k < C.length) : around C k = k :: around C (cI (el C k.toNat) 1) := around_at h0 (hok.mono (by omega))
theorem ar_par {k : Int} (h0 : 0 ≤ k) (hk : k < C.length) : -1 ≤ cI (el C k.toNat) 1 ∧ cI (el C k.toNat) 1 < k := by
  have := hok k.toNat (by omega)
  omega
theorem ar_mem : ∀ (n : Nat) (k : Int), k < n → k < C.length → ∀ c ∈ around C k, 0 ≤ c ∧ c ≤ k
  | 0, k, h, _, c, hc => by rw [around_neg (by omega)] at hc; simp at hc
  | n + 1, k, h, hk, c, hc => by
    by_cases h0 : 0 ≤ k
    · have hp := ar_par hok h0 hk
      rw [ar_at hok h0 hk, List.mem_cons] at hc
      rcases hc with rfl | hc
      · omega
      · have := ar_mem n (cI (el C k.toNat) 1) (by omega) (by omega) c hc
        omega
    · rw [around_neg (by omega)] at hc; simp at hc
theorem ar_drop : ∀ (n : Nat) (k : Int), k < n → k < C.length → ∀ p, p < (around C k).length → around C ((around C k).getD p 0) = (around C k).drop p
  | 0, k, h, _, p, hp => by rw [around_neg (by omega)] at hp; simp at hp
  | n + 1, k, h, hk, p, hp => by
    by_cases h0 : 0 ≤ k
    · have hpar := ar_par hok h0 hk
      have e := ar_at hok h0 hk
      cases p with
      | zero => rw [List.drop_zero, show (around C k).getD 0 0 = k by rw [e]; rfl]
      | succ p =>
        rw [e] at hp ⊢
        have := ar_drop n (cI (el C k.toNat) 1) (by omega) (by omega) p (by simpa using hp)
        simpa using this
    · rw [around_neg (by omega)] at hp; simp at hp
theorem ar_pos {k : Int} (hk : k < C.length) {c : Int} (hc : c ∈ around C k) : ∃ p, p < (around C k).length ∧ (around C k).getD p 0 = c ∧ around C c = (around C k).drop p ∧ depth C c = (around C k).length - p := by
  obtain ⟨p, hp, rfl⟩ := List.mem_iff_getElem.1 hc
  have e : (around C k).getD p 0 = (around C k)[p] := by simp [List.getD, hp]
  have hd := ar_drop hok (k + 1).toNat k (by omega) hk p hp
  rw [e] at hd
  refine ⟨p, hp, e, hd, ?_⟩
  unfold depth
  rw [hd, List.length_drop]
  omega
theorem ar_trans {k m c : Int} (hk : k < C.length) (hm : m ∈ around C k) (hc : c ∈ around C m) : c ∈ around C k := by
  obtain ⟨p, _, _, hd, _⟩ := ar_pos hok hk hm
  rw [hd] at hc
  exact List.mem_of_mem_drop hc
theorem ar_self {k : Int} (h0 : 0 ≤ k) (hk : k < C.length) : k ∈ around C k := by rw [ar_at hok h0 hk]; simp
theorem ar_up {k c : Int} (hk : k < C.length) (hc : c ∈ around C k) (hp : 0 ≤ cI (el C c.toNat) 1) : cI (el C c.toNat) 1 ∈ around C k := by
  have hb := ar_mem hok (k + 1).toNat k (by omega) hk c hc
  have hpar := ar_par hok hb.1 (by omega)
  refine ar_trans hok hk hc ?_
  rw [ar_at hok hb.1 (by omega), List.mem_cons]
  exact .inr (ar_self hok hp (by omega))
/-- in a chain, depths tell clusters apart -/
theorem ar_depth {k c d : Int} (hk : k < C.length) (hc : c ∈ around C k) (hd : d ∈ around C k) (h : depth C c = depth C d) : c = d := by
  obtain ⟨p, hp, e, _, h1⟩ := ar_pos hok hk hc
  obtain ⟨q, hq, e', _, h2⟩ := ar_pos hok hk hd
  have : p = q := by omega
  rw [← e, ← e', this]
theorem ar_below {k c d : Int} (hk : k < C.length) (hc : c ∈ around C k) (hd : d ∈ around C k) (h : depth C d ≤ depth C c) : d ∈ around C c := by
  obtain ⟨p, hp, e, h3, h1⟩ := ar_pos hok hk hc
  obtain ⟨q, hq, e', _, h2⟩ := ar_pos hok hk hd
  rw [h3, ← e']
  have : q = p + (q - p) := by omega
  refine List.mem_iff_getElem.2 ⟨q - p, by rw [List.length_drop]; omega, ?_⟩
  rw [List.getElem_drop]
  simp only [List.getD, List.getElem?_eq_getElem hq, Option.getD_some]
  congr 1
  omega
theorem depth_pos {c : Int} (h0 : 0 ≤ c) (hc : c < C.length) : 0 < depth C c := by
  unfold depth; rw [ar_at hok h0 hc, List.length_cons]; omega
/-- what the first common cluster is -/
theorem firstIn_spec {k k' : Int} (hk : k < C.length) : (firstIn (around C k') (around C k) = -1 ∧ ∀ c ∈ around C k, c ∉ around C k') ∨
    (firstIn (around C k') (around C k) ∈ around C k ∧ firstIn (around C k') (around C k) ∈ around C k' ∧ ∀ c ∈ around C k, c ∈ around C k' → depth C c ≤ depth C (firstIn (around C k') (around C k))) := by
  generalize hA : around C k = A
  generalize hB : around C k' = B
  unfold firstIn
  by_cases h : fs (fun j => B.contains (A.getD j 0)) A.length < A.length
  · rw [if_pos h]
    have h1 := fs_at h
    simp only [List.contains_iff_mem] at h1
    refine .inr ⟨getD_mem 0 h, h1, fun c hc hc' => ?_⟩
    have hm : A.getD (fs (fun j => B.contains (A.getD j 0)) A.length) 0 ∈ A := getD_mem 0 h
    rw [← hA] at hc hm
    obtain ⟨p, hp, e, _, h2⟩ := ar_pos hok hk hc
    rw [hA] at hp e h2
    have hle : fs (fun j => B.contains (A.getD j 0)) A.length ≤ p := by
      rcases Nat.lt_or_ge p (fs (fun j => B.contains (A.getD j 0)) A.length) with h3 | h3
      · have := fs_min h3
        simp only [e] at this
        rw [List.contains_iff_mem.2 hc'] at this
        cases this
      · exact h3
    have hd := ar_drop hok (k + 1).toNat k (by omega) hk (fs (fun j => B.contains (A.getD j 0)) A.length) (by rw [hA]; exact h)
    rw [hA] at hd
    have h4 : depth C (A.getD (fs (fun j => B.contains (A.getD j 0)) A.length) 0) = A.length - fs (fun j => B.contains (A.getD j 0)) A.length := by
      unfold depth; rw [hd, List.length_drop]; omega
    omega
  · rw [if_neg h]
    refine .inl ⟨rfl, fun c hc hc' => ?_⟩
    obtain ⟨p, hp, rfl⟩ := List.mem_iff_getElem.1 hc
    have hl := fs_le (fun j => B.contains (A.getD j 0)) A.length
    have := fs_min (p := fun j => B.contains (A.getD j 0)) (n := A.length) (k := p) (by omega)
    simp only [List.getD, List.getElem?_eq_getElem hp, Option.getD_some] at this
    rw [List.contains_iff_mem.2 hc'] at this
    cases this
theorem firstIn_comm {k k' : Int} (hk : k < C.length) (hk' : k' < C.length) : firstIn (around C k') (around C k) = firstIn (around C k) (around C k') := by
  rcases firstIn_spec hok (k := k) (k' := k') hk with ⟨h1, h2⟩ | ⟨h1, h2, h3⟩
  · rcases firstIn_spec hok (k := k') (k' := k) hk' with ⟨h4, h5⟩ | ⟨h4, h5, h6⟩
    · rw [h1, h4]
    · exact absurd h4 (h2 _ h5)
  · rcases firstIn_spec hok (k := k') (k' := k) hk' with ⟨h4, h5⟩ | ⟨h4, h5, h6⟩
    · exact absurd h1 (h5 _ h2)
    · have a1 := h3 _ h5 h4
      have a2 := h6 _ h2 h1
      exact ar_depth hok hk h1 h5 (by omega)
theorem firstIn_self {k : Int} (h : -1 ≤ k) (hk : k < C.length) : firstIn (around C k) (around C k) = k := by
  by_cases h0 : 0 ≤ k
  · rcases firstIn_spec hok (k := k) (k' := k) hk with ⟨h1, h2⟩ | ⟨h1, h2, h3⟩
    · exact absurd (ar_self hok h0 hk) (h2 _ (ar_self hok h0 hk))
    · have a1 := h3 _ (ar_self hok h0 hk) (ar_self hok h0 hk)
      obtain ⟨p, hp, e, _, h4⟩ := ar_pos hok hk h1
      have h5 : depth C k = (around C k).length := rfl
      have : p = 0 := by omega
      subst this
      rw [← e, ar_at hok h0 hk]; rfl
  · rw [around_neg (by omega), show k = -1 by omega]; rfl
end
end Go.Proofs.Ythnilbkkihmpoaa.rv

namespace Go.Proofs.Ythnilbkkihmpoaa.rv
open Go.RV

theorem com_c {g : Gd} {a b : Int} : ((!(validE g == 0) || decide (min a b < 0)) || decide ((g.N.length : Int) ≤ max a b)) = !decide (validE g = 0 ∧ (0 ≤ a ∧ a < g.N.length) ∧ 0 ≤ b ∧ b < g.N.length) := by
  rw [Bool.eq_iff_iff]
  simp only [Bool.or_eq_true, Bool.not_eq_true', beq_eq_false_iff_ne, decide_eq_true_eq, decide_eq_false_iff_not]
  omega
theorem com_d {g : Gd} {a b : Int} : ((((!(validE g == 0) || decide (a < 0)) || decide ((g.N.length : Int) ≤ a)) || decide (b < 0)) || decide ((g.N.length : Int) ≤ b)) = !decide (validE g = 0 ∧ (0 ≤ a ∧ a < g.N.length) ∧ 0 ≤ b ∧ b < g.N.length) := by
  rw [Bool.eq_iff_iff]
  simp only [Bool.or_eq_true, Bool.not_eq_true', beq_eq_false_iff_ne, decide_eq_true_eq, decide_eq_false_iff_not]
  omega
theorem map_el {l : List Int} {j : Nat} (h : j < l.length) : cI (el (l.map encI) j) 0 = l.getD j 0 := by
  simp only [cI, el]
  rw [rowI h]; rfl
theorem el_map0 {l : List Int} {j : Nat} (h : j < l.length) : (el (l.map encI) j).getD 0 default = .i (l.getD j 0) := by
  simp only [el]
  rw [rowI h]; rfl
theorem inN_iff {N C : List (List D)} {c : Int} {v : Nat} (h : 0 ≤ c) : inN N C c v = true ↔ c ∈ around C (cI (el N v) 4) := by
  unfold inN
  rw [show decide (c < 0) = false from decide_eq_false (by omega), Bool.false_or, List.contains_iff_mem]
theorem best_first {g : Gd} (hv : okV g) {a b : Nat} (ha : a < g.N.length) (hb : b < g.N.length) :
    foldN (bestF g.N g.C a b) g.C.length 0 (-1) = firstIn (around g.C (cI (el g.N b) 4)) (around g.C (cI (el g.N a) 4)) := by
  have ba := hv.2.2.2 a ha
  have bb := hv.2.2.2 b hb
  have hok := hv.2.2.1
  generalize hf : firstIn (around g.C (cI (el g.N b) 4)) (around g.C (cI (el g.N a) 4)) = f
  have hs := firstIn_spec hok (k := cI (el g.N a) 4) (k' := cI (el g.N b) 4) ba.2
  rw [hf] at hs
  have key : ∀ (n i : Nat) (m : Int), i + n = g.C.length → -1 ≤ m → m < i → (0 ≤ m → m ∈ around g.C (cI (el g.N a) 4) ∧ m ∈ around g.C (cI (el g.N b) 4)) → (f < i → m = f) → foldN (bestF g.N g.C a b) g.C.length i m = f := by
    intro n
    induction n with
    | zero =>
      intro i m hi hm0 hmi hmm hmf
      have hfl : f < i := by
        rcases hs with ⟨h1, _⟩ | ⟨h1, _, _⟩
        · omega
        · have := ar_mem hok _ _ (by omega : cI (el g.N a) 4 < ((cI (el g.N a) 4 + 1).toNat : Nat)) ba.2 f h1
          omega
      rw [show i = g.C.length by omega, fold_end]
      exact hmf hfl
    | succ n ih =>
      intro i m hi hm0 hmi hmm hmf
      rw [fold_next (f := bestF g.N g.C a b) (i := i) (by omega)]
      have hin : ∀ v : Nat, inN g.N g.C i v = true ↔ (i : Int) ∈ around g.C (cI (el g.N v) 4) := fun v => inN_iff (by omega)
      by_cases hc : inN g.N g.C i a = true ∧ inN g.N g.C i b = true ∧ depth g.C m < depth g.C i
      · have e : bestF g.N g.C a b i m = i := by rw [bestF, if_pos (by rw [Int.toNat_natCast, Int.toNat_natCast]; exact hc)]
        rw [e]
        have h1 := (hin a).1 hc.1
        have h2 := (hin b).1 hc.2.1
        refine ih (i + 1) i (by omega) (by omega) (by omega) (fun _ => ⟨h1, h2⟩) fun hfi => ?_
        rcases hs with ⟨_, h4⟩ | ⟨h3, h4, h5⟩
        · exact absurd h2 (h4 _ h1)
        · by_cases ef : f = i
          · exact ef.symm
          · have := hmf (by omega)
            subst this
            have := h5 _ h1 h2
            omega
      · have e : bestF g.N g.C a b i m = m := by rw [bestF, if_neg (by rw [Int.toNat_natCast, Int.toNat_natCast]; exact hc)]
        rw [e]
        refine ih (i + 1) m (by omega) hm0 (by omega) hmm fun hfi => ?_
        by_cases ef : f = i
        · rcases hs with ⟨h1, _⟩ | ⟨h3, h4, h5⟩
          · omega
          · rw [ef] at h3 h4
            exfalso
            refine hc ⟨(hin a).2 h3, (hin b).2 h4, ?_⟩
            by_cases h0 : 0 ≤ m
            · have hm := hmm h0
              have h6 := h5 _ hm.1 hm.2
              rw [ef] at h6
              have h7 : depth g.C m ≠ depth g.C i := fun h => by
                have := ar_depth hok ba.2 hm.1 h3 h
                omega
              omega
            · rw [depth_neg (by omega)]
              exact depth_pos hok (by omega) (by omega)
        · exact hmf (by omega)
  refine key g.C.length 0 (-1) (by omega) (by omega) (by omega) (fun h => by omega) fun hf0 => ?_
  rcases hs with ⟨h1, _⟩ | ⟨h1, _, _⟩
  · exact h1.symm
  · have := ar_mem hok _ _ (by omega : cI (el g.N a) 4 < ((cI (el g.N a) 4 + 1).toNat : Nat)) ba.2 f h1
    omega
end Go.Proofs.Ythnilbkkihmpoaa.rv

namespace Go.Proofs.Ythnilbkkihmpoaa.rv
open Go.RV

end Go.Proofs.Ythnilbkkihmpoaa.rv

namespace Go.Proofs.Ythnilbkkihmpoaa.rv
open Go.RV

theorem fitsN {e : TypeId} {c rest : List CT} {ds : List D} (h : FitsF (.str :: .str :: .int .i64 :: .int .i64 :: .int .i64 :: .sl e c :: rest) ds) :
    ∃ (s t : ByteArray) (a b c : Int) (ps : List (List D)) (ds' : List D), ds = .s s :: .s t :: .i a :: .i b :: .i c :: .l ps :: ds' ∧ FitsF rest ds' ∧ ps.length ≤ maxLen := by
  match ds, h with
  | d0 :: d1 :: d2 :: d3 :: d4 :: d5 :: ds', ⟨h0, h1, h2, h3, h4, h5, h6⟩ =>
    obtain ⟨s, rfl, _⟩ := wf_str h0
    obtain ⟨t, rfl, _⟩ := wf_str h1
    obtain ⟨a, rfl, _⟩ := wf_i64 h2
    obtain ⟨b, rfl, _⟩ := wf_i64 h3
    obtain ⟨c, rfl, _⟩ := wf_i64 h4
    obtain ⟨ps, rfl, hp, _⟩ := wf_sl h5
    exact ⟨s, t, a, b, c, ps, ds', rfl, h6, hp⟩
theorem loopM32_0 : LoopMeets Try.prog F (R L32_0.key) L32_0 lb32_0 := by
  refine loop_meets (pre := R) mixed (sgAt_all (P := Try.prog) (pre := R) (Φ := F) (l := sg32) ((fun _ h => nomatch h))) (loops_n 0 lk32_0 fun k hk => by omega) L32_0 (fun ρ => (((ρ.getD 7 default).lst.length : Int) - (ρ.getD 1 default).int).toNat) le32_0 fun ρ _ hq => ?_
  obtain ⟨v, a, b, c, d, e, xs, a', b', c', d', e', ys, j, rfl, hj, hm, hl⟩ : prSN ρ := hq
  rw [maxLen_val] at hm
  by_cases hlt : j < xs.length
  · simp (disch := omega) only [rt32_0, VT.ok, Nd.holds, X.ds, X.d, Op1.ev, Op2.ev, List.getD_cons_zero, List.getD_cons_succ, D.int_i, D.bool_b, D.lst_l, ite_b, ite_and, Int.toNat_natCast, implies_true, true_and, ↓reduceIte, dle_t, dlt_t, w64']
    show if (!sameRow2 (el xs j) (el ys j)) = true then _ else _
    cases hb : sameRow2 (el xs j) (el ys j)
    · simp only [Bool.not_false, if_true]
      refine round_exit (by omega) ?_
      show lpSN [v, .i (j : Int), a, b, c, d, e, .l xs, a', b', c', d', e', .l ys] = _
      simp only [lpSN, Int.toNat_natCast]
      exact scan_hit hlt (by rw [hb]; rfl)
    · simp only [Bool.not_true, Bool.false_eq_true, if_false]
      refine round_next ⟨⟨v, a, b, c, d, e, xs, a', b', c', d', e', ys, j + 1, rfl, by omega, hm, hl⟩, ?_, ?_⟩
      · show ((xs.length : Int) - ((j + 1 : Nat) : Int)).toNat < ((xs.length : Int) - (j : Int)).toNat
        omega
      · show lpSN [v, .i ((j + 1 : Nat) : Int), a, b, c, d, e, .l xs, a', b', c', d', e', .l ys] = lpSN [v, .i (j : Int), a, b, c, d, e, .l xs, a', b', c', d', e', .l ys]
        simp only [lpSN, Int.toNat_natCast]
        exact scan_next hlt (by rw [hb]; rfl)
  · have hj' : j = xs.length := by omega
    subst hj'
    simp (disch := omega) only [rt32_0, VT.ok, X.ds, X.d, Op1.ev, Op2.ev, List.getD_cons_zero, List.getD_cons_succ, D.int_i, D.bool_b, D.lst_l, Bool.false_eq_true, ↓reduceIte, dlt_f]
    refine round_exit (by omega) ?_
    show lpSN [v, .i (xs.length : Int), a, b, c, d, e, .l xs, a', b', c', d', e', .l ys] = _
    simp only [lpSN, Int.toNat_natCast]
    exact scan_end
theorem nor6 (a b c d e f : Bool) : (((((!a || !b) || !c) || !d) || !e) || !f) = !((((((a && b) && c) && d) && e)) && f) := by
  cases a <;> cases b <;> cases c <;> cases d <;> cases e <;> cases f <;> rfl
theorem m32 : Meets Try.prog 32 S32 (R 32) (F 32) := by
  refine meets_of_vt (pre := R) (Φ := F) mixed (sgAt_all (P := Try.prog) (pre := R) (Φ := F) (l := sg32) ((fun _ h => nomatch h))) Try.func32 b32 n32 (loops_n 1 k32 fun k hk => match k, hk with | 0, _ => loop_this lf32_0 loopM32_0) e32 fun ds hf hq => ?_
  obtain ⟨s, t, a, b, c, ps, ds', rfl, h5, hps⟩ := fitsN hf.flat
  obtain ⟨s', t', a', b', c', ps', ds'', rfl, h6, _⟩ := fitsN h5
  have e0 := fits0 h6
  subst e0
  have hF : F 32 [.s s, .s t, .i a, .i b, .i c, .l ps, .s s', .s t', .i a', .i b', .i c', .l ps'] = [.b ((((((s == s') && (t == t')) && (a == a')) && (b == b')) && (c == c')) && eqR sameRow2 ps ps')] := rfl
  rw [hF]
  generalize hv : ((((((s == s') && (t == t')) && (a == a')) && (b == b')) && (c == c')) && eqR sameRow2 ps ps') = res
  simp only [vt32, VT.ok, Nd.holds, X.outs, X.ds, X.d, Op1.ev, Op2.ev, List.cons_append, List.nil_append, List.getD_cons_zero, List.getD_cons_succ, D.int_i, D.bool_b, D.lst_l, D.str_s, ite_b, ite_or, F13200, R13200]
  rw [nor6]
  generalize (((((s == s') && (t == t')) && (a == a')) && (b == b')) && (c == c')) = k at hv ⊢
  cases k
  · simp only [Bool.false_and, Bool.not_false, if_true] at hv ⊢
    rw [← hv]
  · simp only [Bool.true_and] at hv ⊢
    by_cases hl : ps'.length = ps.length
    · have hpre : prSN [.b false, .i 0, .s s, .s t, .i a, .i b, .i c, .l ps, .s s', .s t', .i a', .i b', .i c', .l ps'] := ⟨_, _, _, _, _, _, ps, _, _, _, _, _, ps', 0, rfl, by omega, hps, hl⟩
      rw [eqR] at hv
      rw [beq_t (by omega)] at hv ⊢
      simp only [Bool.not_true, Bool.false_eq_true, if_false, Bool.true_and] at hv ⊢
      refine ⟨fun _ => hpre, ?_⟩
      simp only [lpSN, Int.toNat_zero, Nat.sub_zero]
      rcases scan_two (p := fun j => !sameRow2 (el ps j) (el ps' j)) ps.length with ⟨h1, j, _, _, _, h⟩ | ⟨h1, h⟩
      · rw [h1] at hv; simp only [h, ← hv]; rfl
      · rw [h1] at hv; simp only [h, ← hv]; rfl
    · rw [eqR, beq_f (by omega), Bool.false_and] at hv
      rw [beq_f (by omega), ← hv]; rfl
theorem loopM12_0 : LoopMeets Try.prog F (R L12_0.key) L12_0 lb12_0 := by
  refine loop_meets (pre := R) mixed (sgAt_all (P := Try.prog) (pre := R) (Φ := F) (l := sg12) (List.forall_mem_cons.2 ⟨Meets.at (pre := R) (Φ := F) m32, (fun _ h => nomatch h)⟩)) (loops_n 0 lk12_0 fun k hk => by omega) L12_0 (fun ρ => (((ρ.getD 4 default).lst.length : Int) - (ρ.getD 1 default).int).toNat) le12_0 fun ρ _ hq => ?_
  obtain ⟨v, g, h, j, rfl, hj, hm, hl⟩ : prS0 ρ := hq
  rw [maxLen_val] at hm
  by_cases hlt : j < g.N.length
  · simp (disch := omega) only [rt12_0, VT.ok, Nd.holds, X.outs, X.ds, X.d, Op1.ev, Op2.ev, takeD_zero, takeD_cons, List.cons_append, List.nil_append, List.getD_cons_zero, List.getD_cons_succ, D.int_i, D.bool_b, D.lst_l, Int.toNat_natCast, implies_true, true_and, F32, R32, ↓reduceIte, dle_t, dlt_t, w64', sameNodeD]
    show if (!sameNodeB (el g.N j) (el h.N j)) = true then _ else _
    cases hb : sameNodeB (el g.N j) (el h.N j)
    · simp only [Bool.not_false, if_true]
      refine round_exit (by omega) ?_
      show lpS0 [v, .i (j : Int), .s g.nm, .b g.dr, .l g.N, .l g.E, .l g.C, .s h.nm, .b h.dr, .l h.N, .l h.E, .l h.C] = _
      simp only [lpS0, lpSG, Int.toNat_natCast]
      exact scan_hit hlt (by rw [hb]; rfl)
    · simp only [Bool.not_true, Bool.false_eq_true, if_false]
      refine round_next ⟨⟨v, g, h, j + 1, rfl, by omega, hm, hl⟩, ?_, ?_⟩
      · show ((g.N.length : Int) - ((j + 1 : Nat) : Int)).toNat < ((g.N.length : Int) - (j : Int)).toNat
        omega
      · show lpS0 [v, .i ((j + 1 : Nat) : Int), .s g.nm, .b g.dr, .l g.N, .l g.E, .l g.C, .s h.nm, .b h.dr, .l h.N, .l h.E, .l h.C] = lpS0 [v, .i (j : Int), .s g.nm, .b g.dr, .l g.N, .l g.E, .l g.C, .s h.nm, .b h.dr, .l h.N, .l h.E, .l h.C]
        simp only [lpS0, lpSG, Int.toNat_natCast]
        exact scan_next hlt (by rw [hb]; rfl)
  · have hj' : j = g.N.length := by omega
    subst hj'
    simp (disch := omega) only [rt12_0, VT.ok, X.ds, X.d, Op1.ev, Op2.ev, List.getD_cons_zero, List.getD_cons_succ, D.int_i, D.bool_b, D.lst_l, Bool.false_eq_true, ↓reduceIte, dlt_f]
    refine round_exit (by omega) ?_
    show lpS0 [v, .i (g.N.length : Int), .s g.nm, .b g.dr, .l g.N, .l g.E, .l g.C, .s h.nm, .b h.dr, .l h.N, .l h.E, .l h.C] = _
    simp only [lpS0, lpSG, Int.toNat_natCast]
    exact scan_end
theorem loopM12_1 : LoopMeets Try.prog F (R L12_1.key) L12_1 lb12_1 := by
  refine loop_meets (pre := R) mixed (sgAt_all (P := Try.prog) (pre := R) (Φ := F) (l := sg12) (List.forall_mem_cons.2 ⟨Meets.at (pre := R) (Φ := F) m32, (fun _ h => nomatch h)⟩)) (loops_n 0 lk12_1 fun k hk => by omega) L12_1 (fun ρ => (((ρ.getD 5 default).lst.length : Int) - (ρ.getD 1 default).int).toNat) le12_1 fun ρ _ hq => ?_
  obtain ⟨v, g, h, j, rfl, hj, hm, hl⟩ : prS1 ρ := hq
  rw [maxLen_val] at hm
  by_cases hlt : j < g.E.length
  · simp (disch := omega) only [rt12_1, VT.ok, Nd.holds, X.ds, X.d, Op1.ev, Op2.ev, List.getD_cons_zero, List.getD_cons_succ, D.int_i, D.bool_b, D.lst_l, ite_b, ite_and, Int.toNat_natCast, implies_true, true_and, ↓reduceIte, dle_t, dlt_t, w64']
    show if (!sameEdgeB (el g.E j) (el h.E j)) = true then _ else _
    cases hb : sameEdgeB (el g.E j) (el h.E j)
    · simp only [Bool.not_false, if_true]
      refine round_exit (by omega) ?_
      show lpS1 [v, .i (j : Int), .s g.nm, .b g.dr, .l g.N, .l g.E, .l g.C, .s h.nm, .b h.dr, .l h.N, .l h.E, .l h.C] = _
      simp only [lpS1, lpSG, Int.toNat_natCast]
      exact scan_hit hlt (by rw [hb]; rfl)
    · simp only [Bool.not_true, Bool.false_eq_true, if_false]
      refine round_next ⟨⟨v, g, h, j + 1, rfl, by omega, hm, hl⟩, ?_, ?_⟩
      · show ((g.E.length : Int) - ((j + 1 : Nat) : Int)).toNat < ((g.E.length : Int) - (j : Int)).toNat
        omega
      · show lpS1 [v, .i ((j + 1 : Nat) : Int), .s g.nm, .b g.dr, .l g.N, .l g.E, .l g.C, .s h.nm, .b h.dr, .l h.N, .l h.E, .l h.C] = lpS1 [v, .i (j : Int), .s g.nm, .b g.dr, .l g.N, .l g.E, .l g.C, .s h.nm, .b h.dr, .l h.N, .l h.E, .l h.C]
        simp only [lpS1, lpSG, Int.toNat_natCast]
        exact scan_next hlt (by rw [hb]; rfl)
  · have hj' : j = g.E.length := by omega
    subst hj'
    simp (disch := omega) only [rt12_1, VT.ok, X.ds, X.d, Op1.ev, Op2.ev, List.getD_cons_zero, List.getD_cons_succ, D.int_i, D.bool_b, D.lst_l, Bool.false_eq_true, ↓reduceIte, dlt_f]
    refine round_exit (by omega) ?_
    show lpS1 [v, .i (g.E.length : Int), .s g.nm, .b g.dr, .l g.N, .l g.E, .l g.C, .s h.nm, .b h.dr, .l h.N, .l h.E, .l h.C] = _
    simp only [lpS1, lpSG, Int.toNat_natCast]
    exact scan_end
theorem loopM12_2 : LoopMeets Try.prog F (R L12_2.key) L12_2 lb12_2 := by
  refine loop_meets (pre := R) mixed (sgAt_all (P := Try.prog) (pre := R) (Φ := F) (l := sg12) (List.forall_mem_cons.2 ⟨Meets.at (pre := R) (Φ := F) m32, (fun _ h => nomatch h)⟩)) (loops_n 0 lk12_2 fun k hk => by omega) L12_2 (fun ρ => (((ρ.getD 6 default).lst.length : Int) - (ρ.getD 1 default).int).toNat) le12_2 fun ρ _ hq => ?_
  obtain ⟨v, g, h, j, rfl, hj, hm, hl⟩ : prS2 ρ := hq
  rw [maxLen_val] at hm
  by_cases hlt : j < g.C.length
  · simp (disch := omega) only [rt12_2, VT.ok, Nd.holds, X.ds, X.d, Op1.ev, Op2.ev, List.getD_cons_zero, List.getD_cons_succ, D.int_i, D.bool_b, D.lst_l, ite_b, ite_and, Int.toNat_natCast, implies_true, true_and, ↓reduceIte, dle_t, dlt_t, w64']
    show if (!sameRow2 (el g.C j) (el h.C j)) = true then _ else _
    cases hb : sameRow2 (el g.C j) (el h.C j)
    · simp only [Bool.not_false, if_true]
      refine round_exit (by omega) ?_
      show lpS2 [v, .i (j : Int), .s g.nm, .b g.dr, .l g.N, .l g.E, .l g.C, .s h.nm, .b h.dr, .l h.N, .l h.E, .l h.C] = _
      simp only [lpS2, lpSG, Int.toNat_natCast]
      exact scan_hit hlt (by rw [hb]; rfl)
    · simp only [Bool.not_true, Bool.false_eq_true, if_false]
      refine round_next ⟨⟨v, g, h, j + 1, rfl, by omega, hm, hl⟩, ?_, ?_⟩
      · show ((g.C.length : Int) - ((j + 1 : Nat) : Int)).toNat < ((g.C.length : Int) - (j : Int)).toNat
        omega
      · show lpS2 [v, .i ((j + 1 : Nat) : Int), .s g.nm, .b g.dr, .l g.N, .l g.E, .l g.C, .s h.nm, .b h.dr, .l h.N, .l h.E, .l h.C] = lpS2 [v, .i (j : Int), .s g.nm, .b g.dr, .l g.N, .l g.E, .l g.C, .s h.nm, .b h.dr, .l h.N, .l h.E, .l h.C]
        simp only [lpS2, lpSG, Int.toNat_natCast]
        exact scan_next hlt (by rw [hb]; rfl)
  · have hj' : j = g.C.length := by omega
    subst hj'
    simp (disch := omega) only [rt12_2, VT.ok, X.ds, X.d, Op1.ev, Op2.ev, List.getD_cons_zero, List.getD_cons_succ, D.int_i, D.bool_b, D.lst_l, Bool.false_eq_true, ↓reduceIte, dlt_f]
    refine round_exit (by omega) ?_
    show lpS2 [v, .i (g.C.length : Int), .s g.nm, .b g.dr, .l g.N, .l g.E, .l g.C, .s h.nm, .b h.dr, .l h.N, .l h.E, .l h.C] = _
    simp only [lpS2, lpSG, Int.toNat_natCast]
    exact scan_end
theorem lpSG_two (p : List D → List D → Bool) (xs ys : List (List D)) (v : D) (h : ys.length = xs.length) : (eqR p xs ys = false ∧ ∃ n, lpSG p xs ys v 0 = [.i 0, .b false, .i n]) ∨ (eqR p xs ys = true ∧ ∃ n, lpSG p xs ys v 0 = [.i 1, v, .i n]) := by
  unfold lpSG
  rcases scan_two (p := fun j => !p (el xs j) (el ys j)) xs.length with ⟨h1, j, _, _, _, h2⟩ | ⟨h1, h2⟩
  · exact .inl ⟨by rw [eqR, h1]; simp, _, by rw [Nat.sub_zero, h2]⟩
  · exact .inr ⟨by rw [eqR, h1, beq_t (by omega)]; rfl, _, by rw [Nat.sub_zero, h2]⟩
theorem eqR_len {p : List D → List D → Bool} {xs ys : List (List D)} (h : ys.length ≠ xs.length) : eqR p xs ys = false := by rw [eqR, beq_f (by omega), Bool.false_and]
theorem m12 : Meets Try.prog 12 S12 (R 12) (F 12) := by
  refine meets_of_vt (pre := R) (Φ := F) mixed (sgAt_all (P := Try.prog) (pre := R) (Φ := F) (l := sg12) (List.forall_mem_cons.2 ⟨Meets.at (pre := R) (Φ := F) m32, (fun _ h => nomatch h)⟩)) Try.func12 b12 n12 (loops_n 3 k12 fun k hk => match k, hk with | 0, _ => loop_this lf12_0 loopM12_0 | 1, _ => loop_this lf12_1 loopM12_1 | 2, _ => loop_this lf12_2 loopM12_2) e12 fun ds hf hq => ?_
  obtain ⟨g, ds', rfl, h5, _, ⟨hmN, _⟩, ⟨hmE, _⟩, ⟨hmC, _⟩⟩ := fitsG hf.flat
  obtain ⟨h, ds'', rfl, h6, _⟩ := fitsG h5
  have e0 := fits0 h6
  subst e0
  have hF : F 12 (.s g.nm :: .b g.dr :: .l g.N :: .l g.E :: .l g.C :: [.s h.nm, .b h.dr, .l h.N, .l h.E, .l h.C]) = [.b (sameG g h)] := rfl
  rw [hF]
  generalize hv : sameG g h = res
  unfold sameG at hv
  simp only [vt12, VT.ok, Nd.holds, X.outs, X.ds, X.d, Op1.ev, Op2.ev, List.cons_append, List.nil_append, List.getD_cons_zero, List.getD_cons_succ, D.int_i, D.bool_b, D.lst_l, D.str_s, ite_b, ite_or, F11200, R11200, F11201, R11201, F11202, R11202]
  cases h1 : (g.nm == h.nm)
  · rw [h1] at hv
    simp only [Bool.false_and, Bool.not_false, Bool.true_or, if_true] at hv ⊢
    rw [← hv]
  cases h2 : (g.dr == h.dr)
  · rw [h1, h2] at hv
    simp only [Bool.false_and, Bool.and_false, Bool.not_false, Bool.true_or, Bool.or_true, if_true] at hv ⊢
    rw [← hv]
  rw [h1, h2] at hv
  by_cases lN : h.N.length = g.N.length
  · by_cases lE : h.E.length = g.E.length
    · by_cases lC : h.C.length = g.C.length
      · have p0 : prS0 [.b false, .i 0, .s g.nm, .b g.dr, .l g.N, .l g.E, .l g.C, .s h.nm, .b h.dr, .l h.N, .l h.E, .l h.C] := ⟨_, g, h, 0, rfl, by omega, hmN, lN⟩
        have p1 : ∀ v, prS1 [v, .i 0, .s g.nm, .b g.dr, .l g.N, .l g.E, .l g.C, .s h.nm, .b h.dr, .l h.N, .l h.E, .l h.C] := fun v => ⟨_, g, h, 0, rfl, by omega, hmE, lE⟩
        have p2 : ∀ v, prS2 [v, .i 0, .s g.nm, .b g.dr, .l g.N, .l g.E, .l g.C, .s h.nm, .b h.dr, .l h.N, .l h.E, .l h.C] := fun v => ⟨_, g, h, 0, rfl, by omega, hmC, lC⟩
        rw [beq_t (a := (g.N.length : Int)) (by omega), beq_t (a := (g.E.length : Int)) (by omega), beq_t (a := (g.C.length : Int)) (by omega), if_neg (by decide)]
        refine ⟨fun _ => p0, ?_⟩
        simp only [lpS0, lpS1, lpS2, Int.toNat_zero]
        rcases lpSG_two sameNodeB g.N h.N (.b false) lN with ⟨e1, n1, e2⟩ | ⟨e1, n1, e2⟩
        · rw [e1] at hv
          simp only [e2, takeD_zero, takeD_cons, List.cons_append, List.nil_append, List.getD_cons_zero, List.getD_cons_succ, D.int_i]
          rw [if_pos (by rfl), ← hv]; rfl
        · rw [e1] at hv
          simp only [e2, takeD_zero, takeD_cons, List.cons_append, List.nil_append, List.getD_cons_zero, List.getD_cons_succ, D.int_i]
          rw [if_neg (by decide)]
          refine ⟨fun _ => p1 _, ?_⟩
          rcases lpSG_two sameEdgeB g.E h.E (.b false) lE with ⟨e3, n3, e4⟩ | ⟨e3, n3, e4⟩
          · rw [e3] at hv
            simp only [e4, takeD_zero, takeD_cons, List.cons_append, List.nil_append, List.getD_cons_zero, List.getD_cons_succ, D.int_i]
            rw [if_pos (by rfl), ← hv]; rfl
          · rw [e3] at hv
            simp only [e4, takeD_zero, takeD_cons, List.cons_append, List.nil_append, List.getD_cons_zero, List.getD_cons_succ, D.int_i]
            rw [if_neg (by decide)]
            refine ⟨fun _ => p2 _, ?_⟩
            rcases lpSG_two sameRow2 g.C h.C (.b false) lC with ⟨e5, n5, e6⟩ | ⟨e5, n5, e6⟩
            · rw [e5] at hv
              simp only [e6, takeD_zero, takeD_cons, List.getD_cons_zero, List.getD_cons_succ, D.int_i]
              rw [if_pos (by rfl), ← hv]; rfl
            · rw [e5] at hv
              simp only [e6, takeD_zero, takeD_cons, List.getD_cons_zero, List.getD_cons_succ, D.int_i]
              rw [if_neg (by decide), ← hv]; rfl
      · rw [eqR_len lC, Bool.and_false] at hv
        rw [beq_f (a := (g.C.length : Int)) (by omega), ← hv]
        simp only [Bool.not_false, Bool.or_true, if_true]
    · rw [eqR_len lE, Bool.and_false, Bool.false_and] at hv
      rw [beq_f (a := (g.E.length : Int)) (by omega), ← hv]
      simp only [Bool.not_false, Bool.or_true, Bool.true_or, if_true]
  · rw [eqR_len lN, Bool.and_false, Bool.false_and, Bool.false_and] at hv
    rw [beq_f (a := (g.N.length : Int)) (by omega), ← hv]
    simp only [Bool.not_false, Bool.or_true, Bool.true_or, if_true]
end Go.Proofs.Ythnilbkkihmpoaa.rv
