/-
  Graphs as raw data: names, labels, ports, nodes, clusters, edges; what is valid; clusters around a cluster.
  Graphs: the closed forms of the functions and loops.
-/
import Derived.Test.YthnilbkkihmpoaaRvRows4
namespace Go.RV
open Go.RowKit

theorem ba_beq (x y : Array UInt8) : (ByteArray.mk x == ByteArray.mk y) = (x == y) := rfl
instance : LawfulBEq ByteArray where
  eq_of_beq {a b} h := by
    cases a; cases b
    rw [ba_beq] at h
    rw [eq_of_beq h]
  rfl {a} := by cases a; rw [ba_beq]; exact beq_self_eq_true _
theorem wf_str {d : D} (h : Wf .str d) : ∃ s : ByteArray, d = .s s ∧ s.size ≤ maxLen := by
  cases h with
  | str h => exact ⟨_, rfl, h⟩
abbrev el (xs : List (List D)) (i : Nat) : List D := xs.getD i []
abbrev cS (x : List D) (j : Nat) : ByteArray := (x.getD j default).str
abbrev cI (x : List D) (j : Nat) : Int := (x.getD j default).int
abbrev cL (x : List D) (j : Nat) : List (List D) := (x.getD j default).lst

theorem dor_t {p q : Prop} [Decidable p] [Decidable q] (h : p ∨ q) : (decide p || decide q) = true := by simpa using h
theorem dor_f {p q : Prop} [Decidable p] [Decidable q] (h : ¬ (p ∨ q)) : ¬ (decide p || decide q) = true := by simpa using h

theorem bne_t {a b : Int} (h : a ≠ b) : (!(a == b)) = true := by simpa using h
theorem bne_f {a b : Int} (h : a = b) : ¬ (!(a == b)) = true := by simpa using h
theorem dec_t {p : Prop} [Decidable p] (h : p) : decide p = true := decide_eq_true h
theorem dec_f {p : Prop} [Decidable p] (h : ¬ p) : ¬ decide p = true := by rw [decide_eq_false h]; decide

/-! ### searches -/
def fst (p : Nat → Bool) : Nat → Nat → Nat
  | 0, i => i
  | m + 1, i => if p i = true then i else fst p m (i + 1)
theorem fst_spec {p : Nat → Bool} : ∀ (m i : Nat), i ≤ fst p m i ∧ fst p m i ≤ i + m ∧ (∀ k, i ≤ k → k < fst p m i → p k = false) ∧ (fst p m i < i + m → p (fst p m i) = true)
  | 0, i => ⟨Nat.le_refl _, Nat.le_refl _, fun k h1 h2 => by simp only [fst] at h2; omega, fun h => by simp only [fst] at h; omega⟩
  | m + 1, i => by
    cases hp : p i with
    | true =>
      have e : fst p (m + 1) i = i := by rw [fst, if_pos hp]
      rw [e]
      exact ⟨Nat.le_refl _, by omega, fun k h1 h2 => by omega, fun _ => hp⟩
    | false =>
      have e : fst p (m + 1) i = fst p m (i + 1) := by rw [fst, if_neg (by rw [hp]; decide)]
      rw [e]
      obtain ⟨h1, h2, h3, h4⟩ := fst_spec (p := p) m (i + 1)
      refine ⟨by omega, by omega, fun k k1 k2 => ?_, fun h => h4 (by omega)⟩
      by_cases ek : k = i
      · rw [ek]; exact hp
      · exact h3 k (by omega) k2
/-- the first place below n with p, or n -/
def fs (p : Nat → Bool) (n : Nat) : Nat := fst p n 0
theorem fs_le (p : Nat → Bool) (n : Nat) : fs p n ≤ n := by have := (fst_spec (p := p) n 0).2.1; rw [Nat.zero_add] at this; exact this
theorem fs_at {p : Nat → Bool} {n : Nat} (h : fs p n < n) : p (fs p n) = true := (fst_spec (p := p) n 0).2.2.2 (by rw [Nat.zero_add]; exact h)
theorem fs_min {p : Nat → Bool} {n k : Nat} (h : k < fs p n) : p k = false := (fst_spec (p := p) n 0).2.2.1 k (Nat.zero_le _) h
theorem fs_eq {p : Nat → Bool} {n j : Nat} (hj : j ≤ n) (h : ∀ k, k < j → p k = false) (h1 : j < n → p j = true) : fs p n = j := by
  have a := fs_le p n
  by_cases e : fs p n < j
  · have := fs_at (by omega : fs p n < n)
    rw [h _ e] at this
    cases this
  · by_cases e2 : j < fs p n
    · have := fs_min e2
      rw [h1 (by omega)] at this
      cases this
    · omega
theorem fs_congr {p q : Nat → Bool} {n : Nat} (h : ∀ k, k < n → p k = q k) : fs p n = fs q n := by
  have hq := fs_le q n
  refine fs_eq hq (fun k hk => ?_) fun hk => ?_
  · rw [h k (Nat.lt_of_lt_of_le hk hq)]; exact fs_min hk
  · rw [h _ hk]; exact fs_at hk
theorem any_fs (p : Nat → Bool) (n : Nat) : anyN p n = decide (fs p n < n) := by
  have := fs_le p n
  by_cases h : fs p n < n
  · rw [decide_eq_true h, anyN_iff]; exact ⟨_, h, fs_at h⟩
  · rw [decide_eq_false h, anyN_false]; intro j hj; exact fs_min (n := n) (by omega)
theorem scan_fs {p : Nat → Bool} {hit miss : Nat → List D} (n : Nat) : scanN p hit miss n 0 = if fs p n < n then hit (fs p n) else miss n := by
  rcases scan_any (p := p) (hit := hit) (miss := miss) n with ⟨_, j, h1, h2, h3, h4⟩ | ⟨h1, h2⟩
  · have : fs p n = j := fs_eq (by omega) h3 fun _ => h2
    rw [h4, this, if_pos h1]
  · rw [any_fs, decide_eq_false_iff_not] at h1
    rw [h2, if_neg h1]
/-- the index of the first place with p, or -1 -/
def ixI (p : Nat → Bool) (n : Nat) : Int := if fs p n < n then (fs p n : Int) else -1
theorem ixI_congr {p q : Nat → Bool} {n : Nat} (h : ∀ k, k < n → p k = q k) : ixI p n = ixI q n := by unfold ixI; rw [fs_congr h]
theorem ixI_any (p : Nat → Bool) (n : Nat) : decide (0 ≤ ixI p n) = anyN p n := by
  rw [any_fs]; unfold ixI
  split
  · rename_i h; rw [decide_eq_true h]; exact dle_t (by omega)
  · rename_i h; rw [decide_eq_false h]; rfl
theorem anyN_congr {p q : Nat → Bool} {n : Nat} (h : ∀ k, k < n → p k = q k) : anyN p n = anyN q n := by rw [any_fs, any_fs, fs_congr h]
/-- the first error of the places below n -/
abbrev er (e : Nat → Int) (j : Nat) : Bool := !(e j == 0)
def fe (e : Nat → Int) (n : Nat) : Int := if fs (er e) n < n then e (fs (er e) n) else 0
theorem fe_congr {e f : Nat → Int} {n : Nat} (h : ∀ k, k < n → e k = f k) : fe e n = fe f n := by
  have h1 : fs (er e) n = fs (er f) n := fs_congr fun k hk => by simp only [er, h k hk]
  unfold fe
  rw [h1]
  split
  · rename_i hlt; exact h _ hlt
  · rfl
theorem fe_ok {e : Nat → Int} {n : Nat} : fe e n = 0 ↔ ∀ k, k < n → e k = 0 := by
  unfold fe
  constructor
  · intro h k hk
    split at h
    · rename_i hlt
      have := fs_at hlt
      simp only [er, h] at this
      cases this
    · have := fs_min (p := er e) (n := n) (k := k) (by omega)
      simpa [er] using this
  · intro h
    split
    · rename_i hlt; exact h _ hlt
    · rfl
def errLp (e : Nat → Int) (v : D) (n i : Nat) : List D := scanN (er e) (fun j => [.i 0, .i (e j), .i (j : Int)]) (fun j => [.i 1, v, .i (j : Int)]) (n - i) i
theorem errLp_two (e : Nat → Int) (v : D) (n : Nat) : (fe e n ≠ 0 ∧ errLp e v n 0 = [.i 0, .i (fe e n), .i (fs (er e) n : Int)]) ∨ (fe e n = 0 ∧ (∀ k, k < n → e k = 0) ∧ errLp e v n 0 = [.i 1, v, .i (n : Int)]) := by
  unfold errLp
  rw [Nat.sub_zero, scan_fs]
  by_cases h : fs (er e) n < n
  · have h1 := fs_at h
    have h2 : e (fs (er e) n) ≠ 0 := by simpa [er] using h1
    rw [if_pos h]
    refine .inl ⟨?_, ?_⟩ <;> rw [fe, if_pos h]
    exact h2
  · rw [if_neg h]
    have h0 : fe e n = 0 := by rw [fe, if_neg h]
    exact .inr ⟨h0, fe_ok.1 h0, rfl⟩
/-- two lists of rows are equal, row by row -/
def eqR (p : List D → List D → Bool) (xs ys : List (List D)) : Bool := ((xs.length : Int) == (ys.length : Int)) && !anyN (fun j => !p (el xs j) (el ys j)) xs.length
theorem eqR_iff {p : List D → List D → Bool} {xs ys : List (List D)} : eqR p xs ys = true ↔ xs.length = ys.length ∧ ∀ j, j < xs.length → p (el xs j) (el ys j) = true := by
  simp only [eqR, Bool.and_eq_true, beq_iff_eq, Bool.not_eq_true', anyN_false, Bool.not_eq_false']
  constructor
  · rintro ⟨h1, h2⟩; exact ⟨by omega, h2⟩
  · rintro ⟨h1, h2⟩; exact ⟨by omega, h2⟩
theorem eqR_refl {p : List D → List D → Bool} (h : ∀ x, p x x = true) (xs : List (List D)) : eqR p xs xs = true := eqR_iff.2 ⟨rfl, fun _ _ => h _⟩

/-! ### names -/
def bt (s : ByteArray) (j : Nat) : Int := (((s[j]?).getD 0).toNat : Int)
def letB (c : Int) : Bool := ((decide (97 ≤ c) && decide (c ≤ 122)) || (decide (65 ≤ c) && decide (c ≤ 90))) || (c == 95)
def digB (c : Int) : Bool := decide (48 ≤ c) && decide (c ≤ 57)
def wordP (s : ByteArray) (j : Nat) : Bool := !(letB (bt s j) || (decide (0 < (j : Int)) && digB (bt s j)))
def kwB (s : ByteArray) : Bool := (s == ⟨#[100, 105, 103, 114, 97, 112, 104]⟩) || ((s == ⟨#[103, 114, 97, 112, 104]⟩) || ((s == ⟨#[110, 111, 100, 101]⟩) || ((s == ⟨#[101, 100, 103, 101]⟩) || ((s == ⟨#[115, 101, 116]⟩) || (s == ⟨#[99, 108, 117, 115, 116, 101, 114]⟩)))))
def isName (s : ByteArray) : Bool := !(s == ⟨#[]⟩) && decide ((s.size : Int) ≤ 16) && (((fs (wordP s) s.size : Nat) : Int) == (s.size : Int)) && !kwB s

/-! ### labels -/
def lblP (s : ByteArray) (j : Nat) : Bool := decide (bt s j < 32) || decide (126 < bt s j)
def plainB (s : ByteArray) : Bool := !anyN (lblP s) s.size
def labelE (s : ByteArray) : Int := if 32 < (s.size : Int) then 2 else if plainB s = true then 0 else 7

/-! ### ports -/
abbrev nmP (xs : List (List D)) (s : ByteArray) (j : Nat) : Bool := cS (el xs j) 0 == s
def portE (xs : List (List D)) (i : Nat) : Int := if isName (cS (el xs i) 0) = true then (if anyN (nmP xs (cS (el xs i) 0)) i = true then 6 else if cI (el xs i) 1 < 0 ∨ 3 < cI (el xs i) 1 then 7 else 0) else 5
def portsE (xs : List (List D)) : Int := fe (portE xs) xs.length
def ports8 (xs : List (List D)) : Int := if 8 < (xs.length : Int) then 2 else portsE xs

/-! ### nodes -/
def find (N : List (List D)) (s : ByteArray) : Int := ixI (nmP N s) N.length
def sizedB (n : Int) : Bool := decide (1 ≤ n) && decide (n ≤ 1048576)
def nodeE (N C : List (List D)) (i : Nat) : Int :=
  if isName (cS (el N i) 0) = true then
    (if find N (cS (el N i) 0) < i then 6 else if labelE (cS (el N i) 1) = 0 then
      (if (sizedB (cI (el N i) 2) && sizedB (cI (el N i) 3) && !decide (cI (el N i) 4 < -1) && !decide ((C.length : Int) ≤ cI (el N i) 4)) = true then ports8 (cL (el N i) 5) else 3)
      else labelE (cS (el N i) 1))
  else 5

/-! ### clusters -/
def up (C : List (List D)) : Nat → Int → List Int
  | 0, _ => []
  | f + 1, c => if 0 ≤ c then c :: up C f (cI (el C c.toNat) 1) else []
/-- a cluster and all clusters in which it lies, from the inside -/
def around (C : List (List D)) (c : Int) : List Int := up C (c.toNat + 1) c
def depth (C : List (List D)) (c : Int) : Int := (around C c).length
def cluE (N C : List (List D)) (i : Nat) : Int :=
  if isName (cS (el C i) 0) = true then
    (if (decide (0 ≤ find N (cS (el C i) 0)) || anyN (nmP C (cS (el C i) 0)) i) = true then 6 else if cI (el C i) 1 < -1 ∨ (i : Int) ≤ cI (el C i) 1 then 3 else if 6 < depth C i then 2 else 0)
  else 5

/-! ### edges -/
def edgeE (N : List (List D)) (x : List D) : Int :=
  if 0 ≤ cI x 0 ∧ cI x 0 < N.length ∧ 0 ≤ cI x 1 ∧ cI x 1 < N.length ∧ -1 ≤ cI x 2 ∧ cI x 2 < ((cL (el N (cI x 0).toNat) 5).length : Int) ∧ -1 ≤ cI x 3 ∧ cI x 3 < ((cL (el N (cI x 1).toNat) 5).length : Int) then
    (if labelE (cS x 4) = 0 then (if 1 ≤ cI x 5 ∧ cI x 5 ≤ 1000 ∧ 1 ≤ cI x 6 ∧ cI x 6 ≤ 64 then 0 else 7) else labelE (cS x 4))
  else 3

/-! ### graphs -/
structure Gd where
  nm : ByteArray
  dr : Bool
  N : List (List D)
  E : List (List D)
  C : List (List D)
def Gd.ds (g : Gd) : List D := [.s g.nm, .b g.dr, .l g.N, .l g.E, .l g.C]
theorem fitsG {e1 e2 e3 : TypeId} {c1 c2 c3 rest : List CT} {ds : List D} (h : FitsF (.str :: .bool :: .sl e1 c1 :: .sl e2 c2 :: .sl e3 c3 :: rest) ds) :
    ∃ (g : Gd) (ds' : List D), ds = .s g.nm :: .b g.dr :: .l g.N :: .l g.E :: .l g.C :: ds' ∧ FitsF rest ds' ∧ g.nm.size ≤ maxLen ∧ (g.N.length ≤ maxLen ∧ ∀ x ∈ g.N, FitsF c1 x) ∧ (g.E.length ≤ maxLen ∧ ∀ x ∈ g.E, FitsF c2 x) ∧ (g.C.length ≤ maxLen ∧ ∀ x ∈ g.C, FitsF c3 x) := by
  match ds, h with
  | d0 :: d1 :: d2 :: d3 :: d4 :: ds', ⟨h0, h1, h2, h3, h4, h5⟩ =>
    obtain ⟨s, rfl, hs⟩ := wf_str h0
    obtain ⟨b, rfl⟩ := wf_bool h1
    obtain ⟨N, rfl, hN⟩ := wf_sl h2
    obtain ⟨E, rfl, hE⟩ := wf_sl h3
    obtain ⟨C, rfl, hC⟩ := wf_sl h4
    exact ⟨⟨s, b, N, E, C⟩, ds', rfl, h5, hs, hN, hE, hC⟩
def validE (g : Gd) : Int :=
  if 64 < (g.N.length : Int) ∨ 256 < (g.E.length : Int) ∨ 16 < (g.C.length : Int) then 2
  else if isName g.nm = true then
    (if fe (nodeE g.N g.C) g.N.length = 0 then (if fe (cluE g.N g.C) g.C.length = 0 then fe (fun j => edgeE g.N (el g.E j)) g.E.length else fe (cluE g.N g.C) g.C.length) else fe (nodeE g.N g.C) g.N.length)
  else 5
/-- parents come before their clusters -/
def okC (C : List (List D)) (n : Nat) : Prop := ∀ k, k < n → -1 ≤ cI (el C k) 1 ∧ cI (el C k) 1 < k
theorem okC.mono {C : List (List D)} {n m : Nat} (h : okC C n) (hm : m ≤ n) : okC C m := fun k hk => h k (by omega)
theorem okC_of {N C : List (List D)} {n : Nat} (h : ∀ k, k < n → cluE N C k = 0) : okC C n := by
  intro k hk
  have := h k hk
  unfold cluE at this
  split at this
  · split at this
    · omega
    · split at this
      · omega
      · rename_i h3
        omega
  · omega

def sameRow2 (x y : List D) : Bool := (cS x 0 == cS y 0) && (cI x 1 == cI y 1)
def sameNodeB (x y : List D) : Bool := (((((cS x 0 == cS y 0) && (cS x 1 == cS y 1)) && (cI x 2 == cI y 2)) && (cI x 3 == cI y 3)) && (cI x 4 == cI y 4)) && eqR sameRow2 (cL x 5) (cL y 5)
def sameEdgeB (x y : List D) : Bool := (cI x 0 == cI y 0) && ((cI x 1 == cI y 1) && ((cI x 2 == cI y 2) && ((cI x 3 == cI y 3) && ((cS x 4 == cS y 4) && ((cI x 5 == cI y 5) && (cI x 6 == cI y 6))))))
def sameG (g h : Gd) : Bool := ((((g.nm == h.nm) && (g.dr == h.dr)) && eqR sameNodeB g.N h.N) && eqR sameEdgeB g.E h.E) && eqR sameRow2 g.C h.C
theorem sameG_refl (g : Gd) : sameG g g = true := by
  have h2 : ∀ x, sameRow2 x x = true := fun x => by simp [sameRow2]
  have hn : ∀ x, sameNodeB x x = true := fun x => by simp [sameNodeB, eqR_refl h2]
  have he : ∀ x, sameEdgeB x x = true := fun x => by simp [sameEdgeB]
  simp [sameG, eqR_refl hn, eqR_refl he, eqR_refl h2]
end Go.RV

namespace Go.RV
open Go.RowKit

/-! ### library functions -/
/-- the first k cells of a row -/
def cellsN (k : Nat) (x : List D) : List D := (List.range k).map fun i => x.getD i default
theorem cellsN_length (k : Nat) (x : List D) : (cellsN k x).length = k := by simp [cellsN]
def ixLp (dy : List D → List D) (k : Nat) : List D → List D
  | [.l xs, c, v, .i _, .i i] => scanN (fun j => ((dy (c :: cellsN k (el xs j))).getD 0 default).bool) (fun j => [.i 0, .i (j : Int), .i (j : Int)]) (fun j => [.i 1, v, .i (j : Int)]) (xs.length - i.toNat) i.toNat
  | _ => []
def ixPr (pd : List D → Prop) (k : Nat) (ρ : List D) : Prop := ∃ (xs : List (List D)) (c v : D) (j : Nat), ρ = [.l xs, c, v, .i (xs.length : Int), .i (j : Int)] ∧ j ≤ xs.length ∧ xs.length ≤ maxLen ∧ ∀ i, i < xs.length → pd (c :: cellsN k (el xs i))
def ixFn (dy : List D → List D) (k : Nat) (ds : List D) : List D := [.i (ixI (fun j => ((dy (ds.getD 1 default :: cellsN k (el (cL ds 0) j))).getD 0 default).bool) (cL ds 0).length)]
def ixPre (pd : List D → Prop) (k : Nat) (ds : List D) : Prop := ∀ i, i < (cL ds 0).length → pd (ds.getD 1 default :: cellsN k (el (cL ds 0) i))
def cfFn (dy : List D → List D) (k : Nat) (ds : List D) : List D := [.b (anyN (fun j => ((dy (ds.getD 1 default :: cellsN k (el (cL ds 0) j))).getD 0 default).bool) (cL ds 0).length)]
def eqfLp (dy : List D → List D) (k : Nat) : List D → List D
  | [.l ys, c, v, .l xs, .i _, .i i] => scanN (fun j => !((dy (c :: (cellsN k (el xs j) ++ cellsN k (el ys j)))).getD 0 default).bool) (fun j => [.i 0, .b false, .i (j : Int)]) (fun j => [.i 1, v, .i (j : Int)]) (xs.length - i.toNat) i.toNat
  | _ => []
def eqfPr (pd : List D → Prop) (k : Nat) (ρ : List D) : Prop := ∃ (ys : List (List D)) (c v : D) (xs : List (List D)) (j : Nat), ρ = [.l ys, c, v, .l xs, .i (xs.length : Int), .i (j : Int)] ∧ j ≤ xs.length ∧ xs.length ≤ maxLen ∧ ys.length = xs.length ∧ ∀ i, i < xs.length → pd (c :: (cellsN k (el xs i) ++ cellsN k (el ys i)))
def eqfFn (dy : List D → List D) (k : Nat) (ds : List D) : List D := [.b (eqR (fun x y => ((dy (ds.getD 2 default :: (cellsN k x ++ cellsN k y))).getD 0 default).bool) (cL ds 0) (cL ds 1))]
def eqfPre (pd : List D → Prop) (k : Nat) (ds : List D) : Prop := (cL ds 0).length = (cL ds 1).length → ∀ i, i < (cL ds 0).length → pd (ds.getD 2 default :: (cellsN k (el (cL ds 0) i) ++ cellsN k (el (cL ds 1) i)))
/-- slices.Equal -/
def eqLp (p : List D → List D → Bool) : List D → List D
  | [.l xs, .l ys, v, .i _, .i i] => scanN (fun j => !p (el xs j) (el ys j)) (fun j => [.i 0, .b false, .i (j : Int)]) (fun j => [.i 1, v, .i (j : Int)]) (xs.length - i.toNat) i.toNat
  | _ => []
def eqPr (ρ : List D) : Prop := ∃ (xs ys : List (List D)) (v : D) (j : Nat), ρ = [.l xs, .l ys, v, .i (xs.length : Int), .i (j : Int)] ∧ j ≤ xs.length ∧ xs.length ≤ maxLen ∧ ys.length = xs.length
def eqFn (p : List D → List D → Bool) (ds : List D) : List D := [.b (eqR p (cL ds 0) (cL ds 1))]
/-- slices.Index, slices.Contains of ints -/
def iiLp : List D → List D
  | [.l xs, .i n, v, .i _, .i i] => scanN (fun j => n == cI (el xs j) 0) (fun j => [.i 0, .i (j : Int), .i (j : Int)]) (fun j => [.i 1, v, .i (j : Int)]) (xs.length - i.toNat) i.toNat
  | _ => []
def iiPr (ρ : List D) : Prop := ∃ (xs : List (List D)) (n : Int) (v : D) (j : Nat), ρ = [.l xs, .i n, v, .i (xs.length : Int), .i (j : Int)] ∧ j ≤ xs.length ∧ xs.length ≤ maxLen
def iiFn (ds : List D) : List D := [.i (ixI (fun j => cI ds 1 == cI (el (cL ds 0) j) 0) (cL ds 0).length)]
def ciFn (ds : List D) : List D := [.b (anyN (fun j => cI ds 1 == cI (el (cL ds 0) j) 0) (cL ds 0).length)]

/-! ### names, labels -/
def letD (ds : List D) : List D := [.b (letB (cI ds 0))]
def digD (ds : List D) : List D := [.b (digB (cI ds 0))]
def lpWord : List D → List D
  | [.s s, .i i] => scanN (wordP s) (fun j => [.i 0, .i (j : Int)]) (fun j => [.i 0, .i (j : Int)]) (s.size - i.toNat) i.toNat
  | _ => []
def prWord (ρ : List D) : Prop := ∃ (s : ByteArray) (j : Nat), ρ = [.s s, .i (j : Int)] ∧ j ≤ s.size ∧ s.size ≤ maxLen
def wordD (ds : List D) : List D := [.i (fs (wordP (cS ds 0)) (cS ds 0).size : Int)]
def kwD (ds : List D) : List D := [.b (kwB (cS ds 0))]
def nameD (ds : List D) : List D := [.b (isName (cS ds 0))]
def lpLab : List D → List D
  | [v, .l bs, .i _, .i i] => scanN (fun j => decide (cI (el bs j) 0 < 32) || decide (126 < cI (el bs j) 0)) (fun j => [.i 0, .i 7, .i (j : Int)]) (fun j => [.i 1, v, .i (j : Int)]) (bs.length - i.toNat) i.toNat
  | _ => []
def prLab (ρ : List D) : Prop := ∃ (v : D) (bs : List (List D)) (j : Nat), ρ = [v, .l bs, .i (bs.length : Int), .i (j : Int)] ∧ j ≤ bs.length ∧ bs.length ≤ maxLen
def labelD (ds : List D) : List D := [.i (labelE (cS ds 0))]
def lpPlain : List D → List D
  | [.s s, v, .i i] => scanN (lblP s) (fun j => [.i 0, .b false, .i (j : Int)]) (fun j => [.i 1, v, .i (j : Int)]) (s.size - i.toNat) i.toNat
  | _ => []
def prPlain (ρ : List D) : Prop := ∃ (s : ByteArray) (v : D) (j : Nat), ρ = [.s s, v, .i (j : Int)] ∧ j ≤ s.size ∧ s.size ≤ maxLen
def plainD (ds : List D) : List D := [.b (plainB (cS ds 0))]
def sizedD (ds : List D) : List D := [.b (sizedB (cI ds 0))]

/-! ### functions that look for a name -/
def dyNm : List D → List D
  | .c _ _ [.p cap] :: x :: _ => [.b (x.str == (cap.getD 0 default).str)]
  | _ => []
def dpNm (f : FuncId) (cts : List CT) (m k : Nat) (ds : List D) : Prop := ∃ (cap bs : List D), ds = .c f [.pt cts] [.p cap] :: bs ∧ cap.length = m ∧ bs.length = k

/-! ### ports -/
def lpPorts : List D → List D
  | [.l xs, v, .l _, .i _, .i i] => errLp (portE xs) v xs.length i.toNat
  | _ => []
def prPorts (ρ : List D) : Prop := ∃ (xs : List (List D)) (v : D) (j : Nat), ρ = [.l xs, v, .l xs, .i (xs.length : Int), .i (j : Int)] ∧ j ≤ xs.length ∧ xs.length ≤ maxLen
def ports8D (ds : List D) : List D := [.i (ports8 (cL ds 0))]
def lpPortsR : List D → List D
  | [.l xs, v, .i i] => errLp (portE xs) v xs.length i.toNat
  | _ => []
def prPortsR (ρ : List D) : Prop := ∃ (xs : List (List D)) (v : D) (j : Nat), ρ = [.l xs, v, .i (j : Int)] ∧ j ≤ xs.length ∧ xs.length ≤ maxLen
def lpPortsI : List D → List D
  | [.l xs, v, .i i, .i k] => scanN (nmP xs (cS (el xs i.toNat) 0)) (fun j => [.i 0, .i 6, .i (j : Int)]) (fun j => [.i 1, v, .i (j : Int)]) (i.toNat - k.toNat) k.toNat
  | _ => []
def prPortsI (ρ : List D) : Prop := ∃ (xs : List (List D)) (v : D) (i j : Nat), ρ = [.l xs, v, .i (i : Int), .i (j : Int)] ∧ j ≤ i ∧ i < xs.length ∧ xs.length ≤ maxLen
def portsD (ds : List D) : List D := [.i (portsE (cL ds 0))]
/-! ### find -/
def findD (ds : List D) : List D := [.i (find (cL ds 2) (cS ds 5))]
def lpFind : List D → List D
  | [.s nm, v, .i i, _, _, .l N, _, _] => scanN (nmP N nm) (fun j => [.i 0, .i (j : Int), .i (j : Int)]) (fun j => [.i 1, v, .i (j : Int)]) (N.length - i.toNat) i.toNat
  | _ => []
def prFind (ρ : List D) : Prop := ∃ (nm : ByteArray) (v : D) (g : Gd) (j : Nat), ρ = [.s nm, v, .i (j : Int), .s g.nm, .b g.dr, .l g.N, .l g.E, .l g.C] ∧ j ≤ g.N.length ∧ g.N.length ≤ maxLen

/-! ### nodes, clusters, edges -/
def nodeD (ds : List D) : List D := [.i (nodeE (cL ds 2) (cL ds 4) (cI ds 5).toNat)]
def prNode (ds : List D) : Prop := ∃ (i : Nat), ds.getD 5 default = .i (i : Int) ∧ i < (cL ds 2).length
def cluD (ds : List D) : List D := [.i (cluE (cL ds 2) (cL ds 4) (cI ds 5).toNat)]
def prClu (ds : List D) : Prop := ∃ (i : Nat), ds.getD 5 default = .i (i : Int) ∧ i < (cL ds 4).length ∧ (cL ds 4).length ≤ 16 ∧ okC (cL ds 4) i
def lpCluR : List D → List D
  | [.i i, v, .i k, _, _, _, _, .l C, .s nm, _] => scanN (nmP C nm) (fun j => [.i 0, .i 6, .i (j : Int)]) (fun j => [.i 1, v, .i (j : Int)]) (i.toNat - k.toNat) k.toNat
  | _ => []
def prCluR (ρ : List D) : Prop := ∃ (i : Nat) (v : D) (g : Gd) (nm : ByteArray) (z : D) (j : Nat), ρ = [.i (i : Int), v, .i (j : Int), .s g.nm, .b g.dr, .l g.N, .l g.E, .l g.C, .s nm, z] ∧ j ≤ i ∧ i < g.C.length ∧ g.C.length ≤ maxLen
def edgeD (ds : List D) : List D := [.i (edgeE (cL ds 2) (ds.drop 5))]

/-! ### around -/
def rowI1 (C : List (List D)) : Prop := ∀ i, i < C.length → (el C i).getD 1 default = .i (cI (el C i) 1)
def atC (C : List (List D)) (c : Int) : Prop := -1 ≤ c ∧ c < C.length ∧ C.length ≤ 16 ∧ okC C (c + 1).toNat
def aroundD (ds : List D) : List D := [.l ((around (cL ds 4) (cI ds 5)).map encI)]
def prAr (ds : List D) : Prop := atC (cL ds 4) (cI ds 5)
def lpAr : List D → List D
  | [.i c, _, _, _, _, .l C, .l acc] => [.i 0, .i (-1), .l (acc ++ (around C c).map encI)]
  | _ => []
def prArL (ρ : List D) : Prop := ∃ (c : Int) (g : Gd) (acc : List (List D)), ρ = [.i c, .s g.nm, .b g.dr, .l g.N, .l g.E, .l g.C, .l acc] ∧ atC g.C c ∧ rowI1 g.C ∧ acc.length + (c + 1).toNat ≤ 16
def depthD (ds : List D) : List D := [.i (depth (cL ds 4) (cI ds 5))]
def lpDep : List D → List D
  | [.i c, .i n, _, _, _, _, .l C] => [.i 0, .i (-1), .i (n + depth C c)]
  | _ => []
def prDep (ρ : List D) : Prop := ∃ (c n : Int) (g : Gd), ρ = [.i c, .i n, .s g.nm, .b g.dr, .l g.N, .l g.E, .l g.C] ∧ atC g.C c ∧ rowI1 g.C ∧ 0 ≤ n ∧ n + (c + 1) ≤ 16

/-! ### valid -/
def gOf (ds : List D) : Gd := ⟨cS ds 0, (ds.getD 1 default).bool, cL ds 2, cL ds 3, cL ds 4⟩
def validD (ds : List D) : List D := [.i (validE (gOf ds))]
def lpV0 : List D → List D | [v, .i _, .i i, _, _, .l N, _, .l C] => errLp (nodeE N C) v N.length i.toNat | _ => []
def prV0 (ρ : List D) : Prop := ∃ (v : D) (g : Gd) (j : Nat), ρ = [v, .i (g.N.length : Int), .i (j : Int), .s g.nm, .b g.dr, .l g.N, .l g.E, .l g.C] ∧ j ≤ g.N.length ∧ g.N.length ≤ maxLen
def lpV1 : List D → List D | [v, .i _, .i i, _, _, .l N, _, .l C] => errLp (cluE N C) v C.length i.toNat | _ => []
def prV1 (ρ : List D) : Prop := ∃ (v : D) (g : Gd) (j : Nat), ρ = [v, .i (g.C.length : Int), .i (j : Int), .s g.nm, .b g.dr, .l g.N, .l g.E, .l g.C] ∧ j ≤ g.C.length ∧ g.C.length ≤ 16 ∧ ∀ k, k < j → cluE g.N g.C k = 0
def lpV2 : List D → List D | [v, .l E, .i _, .i i, _, _, .l N, _, _] => errLp (fun j => edgeE N (el E j)) v E.length i.toNat | _ => []
def prV2 (ρ : List D) : Prop := ∃ (v : D) (g : Gd) (j : Nat), ρ = [v, .l g.E, .i (g.E.length : Int), .i (j : Int), .s g.nm, .b g.dr, .l g.N, .l g.E, .l g.C] ∧ j ≤ g.E.length ∧ g.E.length ≤ maxLen
def lpW0 : List D → List D | [v, .i i, _, _, .l N, _, .l C] => errLp (nodeE N C) v N.length i.toNat | _ => []
def prW0 (ρ : List D) : Prop := ∃ (v : D) (g : Gd) (j : Nat), ρ = [v, .i (j : Int), .s g.nm, .b g.dr, .l g.N, .l g.E, .l g.C] ∧ j ≤ g.N.length ∧ g.N.length ≤ maxLen
def lpW1 : List D → List D | [v, .i i, _, _, .l N, _, .l C] => errLp (cluE N C) v C.length i.toNat | _ => []
def prW1 (ρ : List D) : Prop := ∃ (v : D) (g : Gd) (j : Nat), ρ = [v, .i (j : Int), .s g.nm, .b g.dr, .l g.N, .l g.E, .l g.C] ∧ j ≤ g.C.length ∧ g.C.length ≤ 16 ∧ ∀ k, k < j → cluE g.N g.C k = 0
def lpW2 : List D → List D | [v, .i i, _, _, .l N, .l E, _] => errLp (fun j => edgeE N (el E j)) v E.length i.toNat | _ => []
def prW2 (ρ : List D) : Prop := ∃ (v : D) (g : Gd) (j : Nat), ρ = [v, .i (j : Int), .s g.nm, .b g.dr, .l g.N, .l g.E, .l g.C] ∧ j ≤ g.E.length ∧ g.E.length ≤ maxLen

/-! ### members, common clusters -/
/-- cluster c (-1: the graph) has node v -/
def inN (N C : List (List D)) (c : Int) (v : Nat) : Bool := decide (c < 0) || (around C (cI (el N v) 4)).contains c
def lpHas : List D → List D
  | [.i c, v, .i k, _, _, _, _, .l C] => if (around C k).contains c = true then [.i 0, .b true, .i c] else [.i 1, v, .i (-1)]
  | _ => []
def prHas (ρ : List D) : Prop := ∃ (c : Int) (v : D) (k : Int) (g : Gd), ρ = [.i c, v, .i k, .s g.nm, .b g.dr, .l g.N, .l g.E, .l g.C] ∧ atC g.C k ∧ rowI1 g.C
def hasD (ds : List D) : List D := [.b (inN (cL ds 2) (cL ds 4) (cI ds 5) (cI ds 6).toNat)]
/-- what a valid graph's parts keep -/
def okV (g : Gd) : Prop := g.N.length ≤ 64 ∧ g.C.length ≤ 16 ∧ okC g.C g.C.length ∧ ∀ v, v < g.N.length → -1 ≤ cI (el g.N v) 4 ∧ cI (el g.N v) 4 < g.C.length
def prHasF (ds : List D) : Prop := okV (gOf ds) ∧ -1 ≤ cI ds 5 ∧ ∃ v : Nat, ds.getD 6 default = .i (v : Int) ∧ v < (cL ds 2).length
def inR (N C : List (List D)) (c : Int) (v : Nat) : List (List D) := if inN N C c v = true then [[.i (v : Int)]] else []
def mems (N C : List (List D)) (c : Int) : List (List D) := collN (inR N C c) N.length 0
def memR (g : Gd) (c : Int) : List (List D) := if validE g = 0 ∧ -1 ≤ c ∧ c < g.C.length then mems g.N g.C c else []
def memD (ds : List D) : List D := [.l (memR (gOf ds) (cI ds 5))]
def lpMem : List D → List D
  | [.i c, .l _, .i _, .i i, _, _, .l N, _, .l C, .l acc] => [.i 0, .i (N.length : Int), .l (acc ++ collN (inR N C c) N.length i.toNat)]
  | _ => []
def prMem (ρ : List D) : Prop := ∃ (c : Int) (g : Gd) (j : Nat) (acc : List (List D)), ρ = [.i c, .l g.N, .i (g.N.length : Int), .i (j : Int), .s g.nm, .b g.dr, .l g.N, .l g.E, .l g.C, .l acc] ∧ j ≤ g.N.length ∧ okV g ∧ -1 ≤ c ∧ acc.length ≤ j
def lpMemR : List D → List D
  | [.i c, .i i, _, _, .l N, _, .l C, .l acc] => [.i 0, .i (N.length : Int), .l (acc ++ collN (inR N C c) N.length i.toNat)]
  | _ => []
def prMemR (ρ : List D) : Prop := ∃ (c : Int) (g : Gd) (j : Nat) (acc : List (List D)), ρ = [.i c, .i (j : Int), .s g.nm, .b g.dr, .l g.N, .l g.E, .l g.C, .l acc] ∧ j ≤ g.N.length ∧ okV g ∧ -1 ≤ c ∧ acc.length ≤ j
def depE (g : Gd) (c : Int) : Int := if validE g = 0 ∧ -1 ≤ c ∧ c < g.C.length then depth g.C c else 0
def depED (ds : List D) : List D := [.i (depE (gOf ds) (cI ds 5))]
/-- the first of l that o has -/
def firstIn (o l : List Int) : Int := if fs (fun j => o.contains (l.getD j 0)) l.length < l.length then l.getD (fs (fun j => o.contains (l.getD j 0)) l.length) 0 else -1
def comE (g : Gd) (a b : Int) : Int := if validE g = 0 ∧ (0 ≤ a ∧ a < g.N.length) ∧ 0 ≤ b ∧ b < g.N.length then firstIn (around g.C (cI (el g.N b.toNat) 4)) (around g.C (cI (el g.N a.toNat) 4)) else -1
def comD (ds : List D) : List D := [.i (comE (gOf ds) (cI ds 5) (cI ds 6))]
def lpCom : List D → List D
  | [v, .l o, .l l, .i _, .i i] => scanN (fun j => anyN (fun k => cI (el l j) 0 == cI (el o k) 0) o.length) (fun j => [.i 0, (el l j).getD 0 default, .i (j : Int)]) (fun j => [.i 1, v, .i (j : Int)]) (l.length - i.toNat) i.toNat
  | _ => []
def prCom (ρ : List D) : Prop := ∃ (v : D) (o l : List (List D)) (j : Nat), ρ = [v, .l o, .l l, .i (l.length : Int), .i (j : Int)] ∧ j ≤ l.length ∧ l.length ≤ maxLen
def bestF (N C : List (List D)) (a b : Int) (j : Nat) (m : Int) : Int := if inN N C j a.toNat = true ∧ inN N C j b.toNat = true ∧ depth C m < depth C j then j else m
def lpComR : List D → List D
  | [.i a, .i b, .i m, .i i, _, _, .l N, _, .l C] => [.i 0, .i (foldN (bestF N C a b) C.length i.toNat m), .i (C.length : Int)]
  | _ => []
def prComR (ρ : List D) : Prop := ∃ (a b : Nat) (m : Int) (j : Nat) (g : Gd), ρ = [.i (a : Int), .i (b : Int), .i m, .i (j : Int), .s g.nm, .b g.dr, .l g.N, .l g.E, .l g.C] ∧ j ≤ g.C.length ∧ okV g ∧ -1 ≤ m ∧ m < j ∧ a < g.N.length ∧ b < g.N.length

/-! ### equal lists, skeletons -/
def sameI1 (x y : List D) : Bool := cI x 0 == cI y 0
def lpSI : List D → List D
  | [.l xs, .l ys, v, .i i] => scanN (fun j => !sameI1 (el xs j) (el ys j)) (fun j => [.i 0, .b false, .i (j : Int)]) (fun j => [.i 1, v, .i (j : Int)]) (xs.length - i.toNat) i.toNat
  | _ => []
def prSI (ρ : List D) : Prop := ∃ (xs ys : List (List D)) (v : D) (j : Nat), ρ = [.l xs, .l ys, v, .i (j : Int)] ∧ j ≤ xs.length ∧ xs.length ≤ maxLen ∧ ys.length = xs.length
def sameI2 (x y : List D) : Bool := (cI x 0 == cI y 0) && (cI x 1 == cI y 1)
def lpSA : List D → List D
  | [v, .i i, _, .l xs, _, .l ys] => scanN (fun j => !sameI2 (el xs j) (el ys j)) (fun j => [.i 0, .b false, .i (j : Int)]) (fun j => [.i 1, v, .i (j : Int)]) (xs.length - i.toNat) i.toNat
  | _ => []
def prSA (ρ : List D) : Prop := ∃ (v : D) (m : D) (xs : List (List D)) (n : D) (ys : List (List D)) (j : Nat), ρ = [v, .i (j : Int), m, .l xs, n, .l ys] ∧ j ≤ xs.length ∧ xs.length ≤ maxLen ∧ ys.length = xs.length
def saD (ds : List D) : List D := [.b ((cI ds 0 == cI ds 2) && eqR sameI2 (cL ds 1) (cL ds 3))]
def sk (E : List (List D)) (j : Nat) : List (List D) := [[(el E j).getD 0 default, (el E j).getD 1 default]]
def lpSk : List D → List D
  | [.l E, .i _, .i i, _, .l acc] => [.i 0, .i (E.length : Int), .l (acc ++ collN (sk E) E.length i.toNat)]
  | _ => []
def prSk (ρ : List D) : Prop := ∃ (E : List (List D)) (j : Nat) (n : D) (acc : List (List D)), ρ = [.l E, .i (E.length : Int), .i (j : Int), n, .l acc] ∧ j ≤ E.length ∧ E.length ≤ 1000000 ∧ acc.length = j
def lpSkR : List D → List D
  | [.i i, _, _, _, .l E, _, _, .l acc] => [.i 0, .i (E.length : Int), .l (acc ++ collN (sk E) E.length i.toNat)]
  | _ => []
def prSkR (ρ : List D) : Prop := ∃ (j : Nat) (a b c : D) (E : List (List D)) (d n : D) (acc : List (List D)), ρ = [.i (j : Int), a, b, c, .l E, d, n, .l acc] ∧ j ≤ E.length ∧ E.length ≤ 1000000 ∧ acc.length = j
def skD (ds : List D) : List D := [.i ((cL ds 2).length : Int), .l (collN (sk (cL ds 3)) (cL ds 3).length 0)]
def skPre (ds : List D) : Prop := (cL ds 3).length ≤ 1000000
def sameNodeD (ds : List D) : List D := [.b (sameNodeB ds (ds.drop 6))]
def sameD (ds : List D) : List D := [.b (sameG (gOf ds) (gOf (ds.drop 5)))]
def dySame : List D → List D
  | .c _ _ _ :: ds => [.b (sameNodeB ds (ds.drop 6))]
  | _ => []
def dpSame (f : FuncId) (ds : List D) : Prop := ∃ as : List D, ds = .c f [] [] :: as ∧ as.length = 12
def lpSN : List D → List D
  | [v, .i i, _, _, _, _, _, .l xs, _, _, _, _, _, .l ys] => scanN (fun j => !sameRow2 (el xs j) (el ys j)) (fun j => [.i 0, .b false, .i (j : Int)]) (fun j => [.i 1, v, .i (j : Int)]) (xs.length - i.toNat) i.toNat
  | _ => []
def prSN (ρ : List D) : Prop := ∃ (v a b c d e : D) (xs : List (List D)) (a' b' c' d' e' : D) (ys : List (List D)) (j : Nat), ρ = [v, .i (j : Int), a, b, c, d, e, .l xs, a', b', c', d', e', .l ys] ∧ j ≤ xs.length ∧ xs.length ≤ maxLen ∧ ys.length = xs.length
def lpSG (p : List D → List D → Bool) (xs ys : List (List D)) (v : D) (i : Nat) : List D := scanN (fun j => !p (el xs j) (el ys j)) (fun j => [.i 0, .b false, .i (j : Int)]) (fun j => [.i 1, v, .i (j : Int)]) (xs.length - i) i
def lpS0 : List D → List D | [v, .i i, _, _, .l xs, _, _, _, _, .l ys, _, _] => lpSG sameNodeB xs ys v i.toNat | _ => []
def prS0 (ρ : List D) : Prop := ∃ (v : D) (g h : Gd) (j : Nat), ρ = [v, .i (j : Int), .s g.nm, .b g.dr, .l g.N, .l g.E, .l g.C, .s h.nm, .b h.dr, .l h.N, .l h.E, .l h.C] ∧ j ≤ g.N.length ∧ g.N.length ≤ maxLen ∧ h.N.length = g.N.length
def lpS1 : List D → List D | [v, .i i, _, _, _, .l xs, _, _, _, _, .l ys, _] => lpSG sameEdgeB xs ys v i.toNat | _ => []
def prS1 (ρ : List D) : Prop := ∃ (v : D) (g h : Gd) (j : Nat), ρ = [v, .i (j : Int), .s g.nm, .b g.dr, .l g.N, .l g.E, .l g.C, .s h.nm, .b h.dr, .l h.N, .l h.E, .l h.C] ∧ j ≤ g.E.length ∧ g.E.length ≤ maxLen ∧ h.E.length = g.E.length
def lpS2 : List D → List D | [v, .i i, _, _, _, _, .l xs, _, _, _, _, .l ys] => lpSG sameRow2 xs ys v i.toNat | _ => []
def prS2 (ρ : List D) : Prop := ∃ (v : D) (g h : Gd) (j : Nat), ρ = [v, .i (j : Int), .s g.nm, .b g.dr, .l g.N, .l g.E, .l g.C, .s h.nm, .b h.dr, .l h.N, .l h.E, .l h.C] ∧ j ≤ g.C.length ∧ g.C.length ≤ maxLen ∧ h.C.length = g.C.length
end Go.RV
