/-
  Paths, items, scenes, hits: the closed forms of the functions and loops.
-/
import Derived.Test.YtpnfcopgmeggoaaRvSc2
import Derived.Test.YtpnfcopgmeggoaaRvGr2
namespace Go.RV
open Go.RowKit

theorem fits4 {a b c d : CT} {ds : List D} (h : FitsF [a, b, c, d] ds) : ∃ x y z w, ds = [x, y, z, w] ∧ Wf a x ∧ Wf b y ∧ Wf c z ∧ Wf d w := by
  match ds, h with
  | [x, y, z, w], ⟨h0, h1, h2, h3, _⟩ => exact ⟨x, y, z, w, rfl, h0, h1, h2, h3⟩

/-! ### function values -/
def dyPt (ds : List D) : List D := [.b (!ptB (cI ds 1) (cI ds 2))]
def dpPt (f : FuncId) (ds : List D) : Prop := ∃ a b : D, ds = [.c f [] [], a, b]
def dyBy (ds : List D) : List D := [.b (decide (cI ds 1 < 32) || decide (126 < cI ds 1))]
def dpBy (f : FuncId) (ds : List D) : Prop := ∃ a : D, ds = [.c f [] [], a]

/-! ### paths -/
/-- cells 0 and 1 are numbers -/
def ptsy (xs : List (List D)) : Prop := ∀ i, i < xs.length → (xs.getD i []).getD 0 default = .i (pX xs i) ∧ (xs.getD i []).getD 1 default = .i (pY xs i)
theorem ptsy_of {xs : List (List D)} (h : ∀ x ∈ xs, FitsF [.int .i64, .int .i64] x) : ptsy xs := fun i hi => by
  obtain ⟨a, b, e, ha, hb⟩ := fits2 (h _ (getD_mem [] hi))
  obtain ⟨n, rfl, _⟩ := wf_i64 ha
  obtain ⟨m, rfl, _⟩ := wf_i64 hb
  rw [pX, pY, cI, cI, el, e]
  exact ⟨rfl, rfl⟩
def n1 (n : Nat) : Nat := max n 1
theorem prd (n : Nat) : ((n : Int) - 1).toNat = n - 1 := by omega
def lpDis : List D → List D
  | [.l xs, v, .i i] => scanN (dupP xs) (fun j => [.i 0, .b false, .i (j : Int)]) (fun j => [.i 1, v, .i (j : Int)]) (n1 xs.length - i.toNat) i.toNat
  | _ => []
def prDis (ρ : List D) : Prop := ∃ (xs : List (List D)) (v : D) (j : Nat), ρ = [.l xs, v, .i (j : Int)] ∧ (1 ≤ j ∧ j ≤ n1 xs.length) ∧ xs.length ≤ maxLen
def disD (ds : List D) : List D := [.b (!anyN (dupP (cL ds 0)) (cL ds 0).length)]
def ptsD (ds : List D) : List D := [.b ((decide (1 ≤ ((cL ds 0).length : Int)) && decide (((cL ds 0).length : Int) ≤ 512)) && !anyN (badP (cL ds 0)) (cL ds 0).length)]
def pathD (ds : List D) : List D := [.b (pathB (cL ds 0))]
def lpPa : List D → List D
  | [.l xs, v, .i i] => scanN (fun j => badP xs j || dupP xs j) (fun j => [.i 0, .b false, .i (j : Int)]) (fun j => [.i 1, v, .i (j : Int)]) (xs.length - i.toNat) i.toNat
  | _ => []
def prPa (ρ : List D) : Prop := ∃ (xs : List (List D)) (v : D) (j : Nat), ρ = [.l xs, v, .i (j : Int)] ∧ j ≤ xs.length ∧ xs.length ≤ maxLen
def bndD (ds : List D) : List D := dQ (bndQ (cL ds 0))
def lpBn : List D → List D
  | [.l xs, .i _, .i i, .i a, .i b, .i c, .i d] => .i 0 :: .i (xs.length : Int) :: dQ (growN xs i.toNat (a, b, c, d))
  | _ => []
def prBn (ρ : List D) : Prop := ∃ (xs : List (List D)) (a b c d : Int) (j : Nat), ρ = [.l xs, .i (xs.length : Int), .i (j : Int), .i a, .i b, .i c, .i d] ∧ j ≤ xs.length ∧ xs.length ≤ maxLen
def lpBr : List D → List D
  | [.l xs, .i i, .i a, .i b, .i c, .i d] => .i 0 :: .i (xs.length : Int) :: dQ (growN xs i.toNat (a, b, c, d))
  | _ => []
def prBr (ρ : List D) : Prop := ∃ (xs : List (List D)) (a b c d : Int) (j : Nat), ρ = [.l xs, .i (j : Int), .i a, .i b, .i c, .i d] ∧ j ≤ xs.length ∧ xs.length ≤ maxLen

/-! ### near a path -/
def lpNr : List D → List D
  | [.l xs, .i t, v, .i i, .i px, .i py] => scanN (bsJ xs px py t) (fun j => [.i 0, .b true, .i (j : Int)]) (fun j => [.i 1, v, .i (j : Int)]) (xs.length - i.toNat) i.toNat
  | _ => []
def prNr (ρ : List D) : Prop := ∃ (xs : List (List D)) (t : Int) (v : D) (px py : Int) (j : Nat), ρ = [.l xs, .i t, v, .i (j : Int), .i px, .i py] ∧ (1 ≤ j ∧ j ≤ xs.length) ∧ pathB xs = true ∧ ptB px py = true ∧ tlB t = true
def lpNs : List D → List D
  | [.l xs, .i t, v, .i i, .i px, .i py] => scanN (sgJ xs px py t) (fun j => [.i 0, .b true, .i (j : Int)]) (fun j => [.i 1, v, .i (j : Int)]) (xs.length - i.toNat) i.toNat
  | _ => []
def nearD (ds : List D) : List D := [.b (nearB (cL ds 0) (cI ds 1) (cI ds 2) (cI ds 3))]

/-! ### items -/
def knD (ds : List D) : List D := [.b (knB ds)]
def usedD (ds : List D) : List D := [.b (usedB ds)]
def extL (ds : List D) : List D := [.i (bndQ (cL ds 0)).1, .i (bndQ (cL ds 0)).2.1, .i (bndQ (cL ds 0)).2.2.1, .i (bndQ (cL ds 0)).2.2.2, .b (pathB (cL ds 0))]
def extA (ds : List D) : List D := [ds.getD 0 default, ds.getD 1 default, ds.getD 2 default, ds.getD 3 default, .b (bxQ (rQ ds 0))]
def itmD (ds : List D) : List D := [.i (itemE ds)]
def lpIt : List D → List D
  | [v, .i i, _, _, _, _, _, _, _, .s s] => scanN (lblP s) (fun j => [.i 0, .i 7, .i (j : Int)]) (fun j => [.i 1, v, .i (j : Int)]) (s.size - i.toNat) i.toNat
  | _ => []
def prIt (ρ : List D) : Prop := ∃ (v a b c d e f g : D) (s : ByteArray) (j : Nat), ρ = [v, .i (j : Int), a, b, c, d, e, f, g, .s s] ∧ j ≤ s.size ∧ s.size ≤ maxLen

/-! ### bounds -/
/-- cells 2 to 5 are numbers -/
def boxy (I : List (List D)) (k : Nat) : Prop := ∀ i, i < I.length → (I.getD i []).getD k default = .i (cI (el I i) k) ∧ (I.getD i []).getD (k + 1) default = .i (cI (el I i) (k + 1)) ∧ (I.getD i []).getD (k + 2) default = .i (cI (el I i) (k + 2)) ∧ (I.getD i []).getD (k + 3) default = .i (cI (el I i) (k + 3))
def lpBo : List D → List D
  | [.l I, .b f, .i i, .i a, .i b, .i c, .i d] => .i 0 :: .b (foldB I i.toNat (f, (a, b, c, d))).1 :: .i (I.length : Int) :: dQ (foldB I i.toNat (f, (a, b, c, d))).2
  | _ => []
def prBo (ρ : List D) : Prop := ∃ (I : List (List D)) (f : Bool) (a b c d : Int) (j : Nat), ρ = [.l I, .b f, .i (j : Int), .i a, .i b, .i c, .i d] ∧ j ≤ I.length ∧ I.length ≤ maxLen ∧ boxy I 2
def bdsD (ds : List D) : List D := dQ (bndS (cL ds 0))
def bxRow : Option Bx → List (List D)
  | none => []
  | some q => [dQ q]
def lpBc : List D → List D
  | [.l I, .i _, .i i, .l acc] => [.i 0, .i (I.length : Int), .l (acc ++ collN (fun j => bxRow (ibox (el I j))) I.length i.toNat)]
  | _ => []
def prBc (ρ : List D) : Prop := ∃ (I acc : List (List D)) (j : Nat), ρ = [.l I, .i (I.length : Int), .i (j : Int), .l acc] ∧ j ≤ I.length ∧ I.length ≤ 1000000 ∧ boxy I 2 ∧ acc.length ≤ j
/-- not too many items -/
def bdPre (ds : List D) : Prop := (cL ds 0).length ≤ 1000000
def uniS (xs : List (List D)) (i : Nat) (s : Bool × Bx) : Bool × Bx := foldN (fun j s => stepB s (if bxQ (rQ (el xs j) 0) = true then some (rQ (el xs j) 0) else none)) xs.length i s
def lpUn : List D → List D
  | [.b f, .l xs, .i _, .i i, .i a, .i b, .i c, .i d] => .i 0 :: .b (!(uniS xs i.toNat (!f, (a, b, c, d))).1) :: .i (xs.length : Int) :: dQ (uniS xs i.toNat (!f, (a, b, c, d))).2
  | _ => []
def prUn (ρ : List D) : Prop := ∃ (f : Bool) (xs : List (List D)) (a b c d : Int) (j : Nat), ρ = [.b f, .l xs, .i (xs.length : Int), .i (j : Int), .i a, .i b, .i c, .i d] ∧ j ≤ xs.length ∧ xs.length ≤ maxLen ∧ boxy xs 0
def uniD (ds : List D) : List D := dQ (uniS (cL ds 0) 0 (false, z4)).2
theorem foldl_bx {I : List (List D)} (hb : ∀ j, ∀ q, ibox (el I j) = some q → bxQ q = true) : ∀ (l : List Nat) (s : Bool × Bx),
    (l.flatMap fun j => bxRow (ibox (el I j))).foldl (fun s x => stepB s (if bxQ (rQ x 0) = true then some (rQ x 0) else none)) s = l.foldl (fun s j => stepB s (ibox (el I j))) s
  | [], s => rfl
  | j :: l, s => by
    rw [List.flatMap_cons, List.foldl_append, List.foldl_cons, ← foldl_bx hb l]
    congr 1
    cases h : ibox (el I j) with
    | none => rfl
    | some q =>
      have := hb j q h
      show stepB s (if bxQ (rQ (dQ q) 0) = true then some (rQ (dQ q) 0) else none) = stepB s (some q)
      have e : rQ (dQ q) 0 = q := rfl
      rw [e, if_pos this]
theorem foldN_list {β : Type} (g : β → List D → β) (xs : List (List D)) (s : β) : foldN (fun j s => g s (el xs j)) xs.length 0 s = xs.foldl g s := by
  have h : (List.range xs.length).map (fun j => el xs j) = xs := by
    refine List.ext_getElem (by simp) fun i h1 h2 => ?_
    simp only [List.getElem_map, List.getElem_range, el, List.getD]
    simp at h1
    simp [h1]
  unfold foldN
  rw [List.drop_zero]
  conv => rhs; rw [← h, List.foldl_map]
theorem ibox_ok {x : List D} {q : Bx} (h : ibox x = some q) : bxQ q = true := by
  unfold ibox at h
  by_cases hk : cI x 0 = 3
  · rw [if_pos hk] at h
    by_cases hp : pathB (cL x 6) = true
    · rw [if_pos hp] at h
      simp only [Option.some.injEq] at h
      rw [← h]; exact bndQ_ok hp
    · rw [if_neg hp] at h; cases h
  · rw [if_neg hk] at h
    by_cases hp : (knB x && bxQ (rQ x 2)) = true
    · rw [if_pos hp] at h
      simp only [Option.some.injEq] at h
      simp only [Bool.and_eq_true] at hp
      rw [← h]; exact hp.2
    · rw [if_neg hp] at h; cases h
theorem uni_coll (I : List (List D)) : uniS (collN (fun j => bxRow (ibox (el I j))) I.length 0) 0 (false, z4) = foldB I 0 (false, z4) := by
  have h1 := foldN_list (fun s x => stepB s (if bxQ (rQ x 0) = true then some (rQ x 0) else none)) (collN (fun j => bxRow (ibox (el I j))) I.length 0) (false, z4)
  unfold uniS
  rw [h1]
  unfold collN foldB foldN
  exact foldl_bx (fun j q h => ibox_ok h) _ _

/-! ### scenes -/
def lpVc : List D → List D
  | [v, .l I, .i _, .i i] => errLp (fun j => itemE (el I j)) v I.length i.toNat
  | _ => []
def prVc (ρ : List D) : Prop := ∃ (v : D) (I : List (List D)) (j : Nat), ρ = [v, .l I, .i (I.length : Int), .i (j : Int)] ∧ j ≤ I.length ∧ I.length ≤ maxLen
def lpVr : List D → List D
  | [v, .i i, _, _, _, _, .l I] => errLp (fun j => itemE (el I j)) v I.length i.toNat
  | _ => []
def prVr (ρ : List D) : Prop := ∃ (v a b c d : D) (I : List (List D)) (j : Nat), ρ = [v, .i (j : Int), a, b, c, d, .l I] ∧ j ≤ I.length ∧ I.length ≤ maxLen
def valD (ds : List D) : List D := [.i (validS (cL ds 4) (rQ ds 0))]
def hitD (ds : List D) : List D := [.b (hitB ds (cI ds 8) (cI ds 9) (cI ds 10))]
def lpAl : List D → List D
  | [.i t, .i i, _, _, _, _, .l I, .i px, .i py, .l acc] => [.i 0, .i (-1), .l (acc ++ downN (one1 (hitJ I px py t)) (i + 1).toNat)]
  | _ => []
def prAl (ρ : List D) : Prop := ∃ (t : Int) (a b c d : D) (I : List (List D)) (px py : Int) (acc : List (List D)) (k : Nat), ρ = [.i t, .i ((k : Int) - 1), a, b, c, d, .l I, .i px, .i py, .l acc] ∧ k ≤ I.length ∧ I.length ≤ 2048 ∧ acc.length + k ≤ 4096
def allD (ds : List D) : List D := [.l (allR (cL ds 4) (rQ ds 0) (cI ds 5) (cI ds 6) (cI ds 7))]
def atD (ds : List D) : List D := [.i (atI (cL ds 4) (rQ ds 0) (cI ds 5) (cI ds 6) (cI ds 7))]
def lpWc : List D → List D
  | [.l I, .i _, .i i, .i a, .i b, .i c, .i d, .l acc] => [.i 0, .i (I.length : Int), .l (acc ++ collN (one1 (inJ I (a, b, c, d))) I.length i.toNat)]
  | _ => []
def prWc (ρ : List D) : Prop := ∃ (I : List (List D)) (a b c d : Int) (acc : List (List D)) (j : Nat), ρ = [.l I, .i (I.length : Int), .i (j : Int), .i a, .i b, .i c, .i d, .l acc] ∧ j ≤ I.length ∧ I.length ≤ 2048 ∧ acc.length ≤ j
def lpWr : List D → List D
  | [.i i, _, _, _, _, .l I, .i a, .i b, .i c, .i d, .l acc] => [.i 0, .i (I.length : Int), .l (acc ++ collN (one1 (inJ I (a, b, c, d))) I.length i.toNat)]
  | _ => []
def prWr (ρ : List D) : Prop := ∃ (x y z w : D) (I : List (List D)) (a b c d : Int) (acc : List (List D)) (j : Nat), ρ = [.i (j : Int), x, y, z, w, .l I, .i a, .i b, .i c, .i d, .l acc] ∧ j ≤ I.length ∧ I.length ≤ 2048 ∧ acc.length ≤ j
def witD (ds : List D) : List D := [.l (witR (cL ds 4) (rQ ds 0) (rQ ds 5))]
end Go.RV
