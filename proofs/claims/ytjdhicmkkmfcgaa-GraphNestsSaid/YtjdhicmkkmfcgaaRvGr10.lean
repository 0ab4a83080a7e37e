/-
  Graphs: chains of clusters, without a program.
-/
import Derived.Test.YtjdhicmkkmfcgaaRvGr9
namespace Go.Proofs.Ytjdhicmkkmfcgaa.rv
open Go.RV

section
variable {C : List (List D)} (hok : okC C C.length)
include hok
theorem ar_at {k : Int} (h0 : 0 ≤ k) (hk : k < C.length) : around C k = k :: around C (cI (el C k.toNat) 1) := around_at h0 (hok.mono (by omega))
theorem ar_par {k : Int} (h0 : 0 ≤ k) (hk : k < C.length) : -1 ≤ cI (el C k.toNat) 1 ∧ cI (el C k.toNat) 1 < k := by
  have := hok k.toNat (by omega)
  omega
theorem ar_mem : ∀ (n : Nat) (k : Int), k < n → k < C.length → ∀ c ∈ around C k, 0 ≤ c ∧ c ≤ k
  | 0, k, h, _, c, hc => by rw [around_neg (by omega)] at hc; simp at hc
  | n + 1, k, h, hk, c, hc => by
    by_cases h0 : 0 ≤ k
    · have hp := ar_par hok h0 hk
      rw [ar_at hok h0 hk, List.mem_cons] at hc
      rcases hc with rfl | hc
      · omega
      · have := ar_mem n (cI (el C k.toNat) 1) (by omega) (by omega) c hc
        omega
    · rw [around_neg (by omega)] at hc; simp at hc
theorem ar_drop : ∀ (n : Nat) (k : Int), k < n → k < C.length → ∀ p, p < (around C k).length → around C ((around C k).getD p 0) = (around C k).drop p
  | 0, k, h, _, p, hp => by rw [around_neg (by omega)] at hp; simp at hp
  | n + 1, k, h, hk, p, hp => by
    by_cases h0 : 0 ≤ k
    · have hpar := ar_par hok h0 hk
      have e := ar_at hok h0 hk
      cases p with
      | zero => rw [List.drop_zero, show (around C k).getD 0 0 = k by rw [e]; rfl]
      | succ p =>
        rw [e] at hp ⊢
        have := ar_drop n (cI (el C k.toNat) 1) (by omega) (by omega) p (by simpa using hp)
        simpa using this
    · rw [around_neg (by omega)] at hp; simp at hp
theorem ar_pos {k : Int} (hk : k < C.length) {c : Int} (hc : c ∈ around C k) : ∃ p, p < (around C k).length ∧ (around C k).getD p 0 = c ∧ around C c = (around C k).drop p ∧ depth C c = (around C k).length - p := by
  obtain ⟨p, hp, rfl⟩ := List.mem_iff_getElem.1 hc
  have e : (around C k).getD p 0 = (around C k)[p] := by simp [List.getD, hp]
  have hd := ar_drop hok (k + 1).toNat k (by omega) hk p hp
  rw [e] at hd
  refine ⟨p, hp, e, hd, ?_⟩
  unfold depth
  rw [hd, List.length_drop]
  omega
theorem ar_trans {k m c : Int} (hk : k < C.length) (hm : m ∈ around C k) (hc : c ∈ around C m) : c ∈ around C k := by
  obtain ⟨p, _, _, hd, _⟩ := ar_pos hok hk hm
  rw [hd] at hc
  exact List.mem_of_mem_drop hc
theorem ar_self {k : Int} (h0 : 0 ≤ k) (hk : k < C.length) : k ∈ around C k := by rw [ar_at hok h0 hk]; simp
theorem ar_up {k c : Int} (hk : k < C.length) (hc : c ∈ around C k) (hp : 0 ≤ cI (el C c.toNat) 1) : cI (el C c.toNat) 1 ∈ around C k := by
  have hb := ar_mem hok (k + 1).toNat k (by omega) hk c hc
  have hpar := ar_par hok hb.1 (by omega)
  refine ar_trans hok hk hc ?_
  rw [ar_at hok hb.1 (by omega), List.mem_cons]
  exact .inr (ar_self hok hp (by omega))
/-- in a chain, depths tell clusters apart -/
theorem ar_depth {k c d : Int} (hk : k < C.length) (hc : c ∈ around C k) (hd : d ∈ around C k) (h : depth C c = depth C d) : c = d := by
  obtain ⟨p, hp, e, _, h1⟩ := ar_pos hok hk hc
  obtain ⟨q, hq, e', _, h2⟩ := ar_pos hok hk hd
  have : p = q := by omega
  rw [← e, ← e', this]
theorem ar_below {k c d : Int} (hk : k < C.length) (hc : c ∈ around C k) (hd : d ∈ around C k) (h : depth C d ≤ depth C c) : d ∈ around C c := by
  obtain ⟨p, hp, e, h3, h1⟩ := ar_pos hok hk hc
  obtain ⟨q, hq, e', _, h2⟩ := ar_pos hok hk hd
  rw [h3, ← e']
  have : q = p + (q - p) := by omega
  refine List.mem_iff_getElem.2 ⟨q - p, by rw [List.length_drop]; omega, ?_⟩
  rw [List.getElem_drop]
  simp only [List.getD, List.getElem?_eq_getElem hq, Option.getD_some]
  congr 1
  omega
theorem depth_pos {c : Int} (h0 : 0 ≤ c) (hc : c < C.length) : 0 < depth C c := by
  unfold depth; rw [ar_at hok h0 hc, List.length_cons]; omega
/-- what the first common cluster is -/
theorem firstIn_spec {k k' : Int} (hk : k < C.length) : (firstIn (around C k') (around C k) = -1 ∧ ∀ c ∈ around C k, c ∉ around C k') ∨
    (firstIn (around C k') (around C k) ∈ around C k ∧ firstIn (around C k') (around C k) ∈ around C k' ∧ ∀ c ∈ around C k, c ∈ around C k' → depth C c ≤ depth C (firstIn (around C k') (around C k))) := by
  generalize hA : around C k = A
  generalize hB : around C k' = B
  unfold firstIn
  by_cases h : fs (fun j => B.contains (A.getD j 0)) A.length < A.length
  · rw [if_pos h]
    have h1 := fs_at h
    simp only [List.contains_iff_mem] at h1
    refine .inr ⟨getD_mem 0 h, h1, fun c hc hc' => ?_⟩
    have hm : A.getD (fs (fun j => B.contains (A.getD j 0)) A.length) 0 ∈ A := getD_mem 0 h
    rw [← hA] at hc hm
    obtain ⟨p, hp, e, _, h2⟩ := ar_pos hok hk hc
    rw [hA] at hp e h2
    have hle : fs (fun j => B.contains (A.getD j 0)) A.length ≤ p := by
      rcases Nat.lt_or_ge p (fs (fun j => B.contains (A.getD j 0)) A.length) with h3 | h3
      · have := fs_min h3
        simp only [e] at this
        rw [List.contains_iff_mem.2 hc'] at this
        cases this
      · exact h3
    have hd := ar_drop hok (k + 1).toNat k (by omega) hk (fs (fun j => B.contains (A.getD j 0)) A.length) (by rw [hA]; exact h)
    rw [hA] at hd
    have h4 : depth C (A.getD (fs (fun j => B.contains (A.getD j 0)) A.length) 0) = A.length - fs (fun j => B.contains (A.getD j 0)) A.length := by
      unfold depth; rw [hd, List.length_drop]; omega
    omega
  · rw [if_neg h]
    refine .inl ⟨rfl, fun c hc hc' => ?_⟩
    obtain ⟨p, hp, rfl⟩ := List.mem_iff_getElem.1 hc
    have hl := fs_le (fun j => B.contains (A.getD j 0)) A.length
    have := fs_min (p := fun j => B.contains (A.getD j 0)) (n := A.length) (k := p) (by omega)
    simp only [List.getD, List.getElem?_eq_getElem hp, Option.getD_some] at this
    rw [List.contains_iff_mem.2 hc'] at this
    cases this
theorem firstIn_comm {k k' : Int} (hk : k < C.length) (hk' : k' < C.length) : firstIn (around C k') (around C k) = firstIn (around C k) (around C k') := by
  rcases firstIn_spec hok (k := k) (k' := k') hk with ⟨h1, h2⟩ | ⟨h1, h2, h3⟩
  · rcases firstIn_spec hok (k := k') (k' := k) hk' with ⟨h4, h5⟩ | ⟨h4, h5, h6⟩
    · rw [h1, h4]
    · exact absurd h4 (h2 _ h5)
  · rcases firstIn_spec hok (k := k') (k' := k) hk' with ⟨h4, h5⟩ | ⟨h4, h5, h6⟩
    · exact absurd h1 (h5 _ h2)
    · have a1 := h3 _ h5 h4
      have a2 := h6 _ h2 h1
      exact ar_depth hok hk h1 h5 (by omega)
theorem firstIn_self {k : Int} (h : -1 ≤ k) (hk : k < C.length) : firstIn (around C k) (around C k) = k := by
  by_cases h0 : 0 ≤ k
  · rcases firstIn_spec hok (k := k) (k' := k) hk with ⟨h1, h2⟩ | ⟨h1, h2, h3⟩
    · exact absurd (ar_self hok h0 hk) (h2 _ (ar_self hok h0 hk))
    · have a1 := h3 _ (ar_self hok h0 hk) (ar_self hok h0 hk)
      obtain ⟨p, hp, e, _, h4⟩ := ar_pos hok hk h1
      have h5 : depth C k = (around C k).length := rfl
      have : p = 0 := by omega
      subst this
      rw [← e, ar_at hok h0 hk]; rfl
  · rw [around_neg (by omega), show k = -1 by omega]; rfl
end
end Go.Proofs.Ytjdhicmkkmfcgaa.rv
