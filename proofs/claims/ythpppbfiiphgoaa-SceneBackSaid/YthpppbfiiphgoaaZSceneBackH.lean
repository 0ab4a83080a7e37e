/-
  Scenes: few items, equal scenes, moved scenes, scenes of drawings (plain).; Moves of scenes: back and forth; the order of items (plain).
-/
import Derived.Test.YthpppbfiiphgoaaZSceneBackG
namespace Go.RV
open Go.RowKit
def fewJ (I : List (List D)) (j : Nat) (n : Int) : Int := if 0 < ((cL (el I j) 6).length : Int) then n + 1 else n
def fewX (I : List (List D)) (j : Nat) (n : Int) : Bool := (decide (60 < fewJ I j n) || decide (600 < ((cL (el I j) 6).length : Int))) || decide (200 < ((cS (el I j) 7).size : Int))
def fewS (I : List (List D)) : Nat → Nat → Int → Bool × Int × Nat
  | 0, i, n => (true, n, i)
  | m + 1, i, n => if fewX I i n = true then (false, fewJ I i n, i) else fewS I m (i + 1) (fewJ I i n)
def fewO (v : D) (q : Bool × Int × Nat) : List D := if q.1 = true then [.i 1, v, .i q.2.1, .i (q.2.2 : Int)] else [.i 0, .b false, .i q.2.1, .i (q.2.2 : Int)]
def lpFw : List D → List D
  | [v, .i n, .i i, _, _, _, _, .l I] => fewO v (fewS I (I.length - i.toNat) i.toNat n)
  | _ => []
def prFw (ρ : List D) : Prop := ∃ (v : D) (n : Int) (j : Nat) (a b c d : D) (I : List (List D)), ρ = [v, .i n, .i (j : Int), a, b, c, d, .l I] ∧ j ≤ I.length ∧ I.length ≤ maxLen ∧ 0 ≤ n ∧ n ≤ j
def fewB (I : List (List D)) : Bool := !decide (2100 < (I.length : Int)) && (fewS I I.length 0 0).1
def fewD (ds : List D) : List D := [.b (fewB (cL ds 4))]
theorem fewS_len {I : List (List D)} : ∀ (m i : Nat) (n : Int), (fewS I m i n).1 = true → ∀ j, i ≤ j → j < i + m → (cL (el I j) 6).length ≤ 600
  | 0, i, n, _, j, h1, h2 => by omega
  | m + 1, i, n, h, j, h1, h2 => by
    rw [fewS] at h
    split at h
    · cases h
    · rename_i hx
      by_cases e : j = i
      · subst e
        simp only [fewX, Bool.or_eq_true, decide_eq_true_eq, not_or] at hx
        omega
      · exact fewS_len m (i + 1) _ h j (by omega) (by omega)
theorem fewB_len {I : List (List D)} (h : fewB I = true) : I.length ≤ 2100 ∧ ∀ j, j < I.length → (cL (el I j) 6).length ≤ 600 := by
  simp only [fewB, Bool.and_eq_true, Bool.not_eq_true', decide_eq_false_iff_not] at h
  exact ⟨by omega, fun j hj => fewS_len _ 0 0 h.2 j (by omega) (by omega)⟩
def sameItem (x y : List D) : Bool := ((((cI x 0 == cI y 0) && (cI x 1 == cI y 1)) && sameQ (rQ x 2) (rQ y 2)) && eqR sameI2 (cL x 6) (cL y 6)) && (cS x 7 == cS y 7)
def sameS (a : Bx) (I : List (List D)) (b : Bx) (J : List (List D)) : Bool := sameQ a b && eqR sameItem I J
def sameSD (ds : List D) : List D := [.b (sameS (rQ ds 0) (cL ds 4) (rQ ds 5) (cL ds 9))]
def sameItD (ds : List D) : List D := [.b (sameItem ds (ds.drop 8))]
theorem sameI2_refl (x : List D) : sameI2 x x = true := by simp [sameI2]
theorem sameItem_refl (x : List D) : sameItem x x = true := by
  have e : sameQ (rQ x 2) (rQ x 2) = true := sameQ_iff.2 rfl
  simp [sameItem, e, eqR_refl sameI2_refl]
theorem sameS_refl (a : Bx) (I : List (List D)) : sameS a I a I = true := by
  have e : sameQ a a = true := sameQ_iff.2 rfl
  simp [sameS, e, eqR_refl sameItem_refl]
abbrev wr (n : Int) : Int := IntKind.i64.wrap n
def mvQ (dx dy : Int) (q : Bx) : Bx := (wr (q.1 + dx), wr (q.2.1 + dy), wr (q.2.2.1 + dx), wr (q.2.2.2 + dy))
def mvP (dx dy : Int) (x : List D) : List D := [.i (wr (cI x 0 + dx)), .i (wr (cI x 1 + dy))]
def mvI (dx dy : Int) (x : List D) : List D :=
  if cI x 0 = 3 then [x.getD 0 default, x.getD 1 default, x.getD 2 default, x.getD 3 default, x.getD 4 default, x.getD 5 default, .l ((cL x 6).map (mvP dx dy)), x.getD 7 default]
  else [x.getD 0 default, x.getD 1 default, .i (mvQ dx dy (rQ x 2)).1, .i (mvQ dx dy (rQ x 2)).2.1, .i (mvQ dx dy (rQ x 2)).2.2.1, .i (mvQ dx dy (rQ x 2)).2.2.2, .l ((cL x 6).map (mvP dx dy)), x.getD 7 default]
def farB (dx dy : Int) : Bool := ((decide (dx < -536870912) || decide (536870912 < dx)) || decide (dy < -536870912)) || decide (536870912 < dy)
def moveS (b : Bx) (I : List (List D)) (dx dy : Int) : Bx × List (List D) × Int :=
  if validS I b = 0 then
    (if (I.length : Int) = 0 then (z4, [], 0) else if (farB dx dy || !bxQ (mvQ dx dy b)) = true then (z4, [], 3) else (mvQ dx dy b, I.map (mvI dx dy), 0))
  else (z4, [], 1)
def outS (q : Bx × List (List D) × Int) : List D := [.i q.1.1, .i q.1.2.1, .i q.1.2.2.1, .i q.1.2.2.2, .l q.2.1, .i q.2.2]
def moveD (ds : List D) : List D := outS (moveS (rQ ds 0) (cL ds 4) (cI ds 5) (cI ds 6))
def okIt (x : List D) : Prop := ∃ (k o a b c d : Int) (ps : List (List D)) (s : ByteArray), x = [.i k, .i o, .i a, .i b, .i c, .i d, .l ps, .s s] ∧ ∀ p ∈ ps, ∃ u v : Int, p = [.i u, .i v]
theorem okIt_of {e : TypeId} {x : List D} (h : FitsF [.int .i64, .int .i64, .int .i64, .int .i64, .int .i64, .int .i64, .sl e [.int .i64, .int .i64], .str] x) : okIt x := by
  match x, h with
  | [d0, d1, d2, d3, d4, d5, d6, d7], ⟨h0, h1, h2, h3, h4, h5, h6, h7, _⟩ =>
    obtain ⟨k, rfl, _⟩ := wf_i64 h0
    obtain ⟨o, rfl, _⟩ := wf_i64 h1
    obtain ⟨a, rfl, _⟩ := wf_i64 h2
    obtain ⟨b, rfl, _⟩ := wf_i64 h3
    obtain ⟨c, rfl, _⟩ := wf_i64 h4
    obtain ⟨d, rfl, _⟩ := wf_i64 h5
    obtain ⟨ps, rfl, _, hp⟩ := wf_sl h6
    obtain ⟨s, rfl, _⟩ := wf_str h7
    refine ⟨k, o, a, b, c, d, ps, s, rfl, fun p hpm => ?_⟩
    obtain ⟨x, y, rfl, hx, hy⟩ := fits2 (hp p hpm)
    obtain ⟨u, rfl, _⟩ := wf_i64 hx
    obtain ⟨v, rfl, _⟩ := wf_i64 hy
    exact ⟨u, v, rfl⟩
theorem item_path {x : List D} (h : itemE x = 0) : (cL x 6).length ≤ 512 := by
  unfold itemE at h
  split at h
  · rename_i h1
    simp only [Bool.and_eq_true] at h1
    split at h
    · rename_i h2
      have hu := h1.1.2
      unfold usedB at hu
      unfold shpB at h2
      simp only [Bool.and_eq_true] at hu
      by_cases hk : cI x 0 = 3
      · rw [if_pos hk] at h2
        exact (pathB_iff.1 h2).2.1
      · rw [if_neg hk] at hu
        have := hu.2
        simp only [beq_iff_eq] at this
        omega
    · cases h
  · cases h
theorem upd2 {ps : List (List D)} {i : Nat} (h : i < ps.length) {u v : Int} (e : ps.getD i [] = [.i u, .i v]) (a : Int) :
    ps.set i (splice (ps.getD i []) 0 [.i a]) = ps.set i [.i a, .i v] ∧ (ps.set i [D.i a, .i v]).getD i [] = [.i a, .i v] ∧ ∀ b : Int, (ps.set i [D.i a, .i v]).set i (splice [D.i a, .i v] 1 [.i b]) = ps.set i [.i a, .i b] := by
  rw [e]
  refine ⟨rfl, by simp [List.getD, h], fun b => ?_⟩
  rw [List.set_set]
  rfl
theorem mv_step {ps : List (List D)} {j : Nat} (h : j < ps.length) {u v dx dy : Int} (e : ps.getD j [] = [.i u, .i v]) :
    (ps.set j [.i (wr (u + dx)), .i (wr (v + dy))]).take (j + 1) ++ ((ps.set j [.i (wr (u + dx)), .i (wr (v + dy))]).drop (j + 1)).map (mvP dx dy) = ps.take j ++ (ps.drop j).map (mvP dx dy) := by
  have e0 : ps[j] = [.i u, .i v] := by
    rw [← e]; simp [List.getD, h]
  rw [List.drop_eq_getElem_cons h, List.map_cons, e0, List.take_succ_eq_append_getElem (by simpa using h), List.getElem_set_self, List.take_set_of_le (Nat.le_refl _), List.drop_set_of_lt (by omega), List.append_assoc]
  rfl
def lpM1 (ρ : List D) : List D := [.i 0, .i ((cL ρ 11).length : Int), .l ((cL ρ 11).take (cI ρ 3).toNat ++ ((cL ρ 11).drop (cI ρ 3).toNat).map (mvP (cI ρ 0) (cI ρ 1)))]
def prM1 (ρ : List D) : Prop := ∃ (dx dy : Int) (x4 x5 x6 x7 x8 x9 x10 : D) (ps : List (List D)) (j : Nat), ρ = [.i dx, .i dy, .i (ps.length : Int), .i (j : Int), x4, x5, x6, x7, x8, x9, x10, .l ps] ∧ j ≤ ps.length ∧ ps.length ≤ 512 ∧ ∀ p ∈ ps, ∃ u v : Int, p = [.i u, .i v]
def lpN1 (ρ : List D) : List D := [.i 0, .i ((cL ρ 9).length : Int), .l (cL ρ 11 ++ collN (fun j => [mvP (cI ρ 0) (cI ρ 1) (el (cL ρ 9) j)]) (cL ρ 9).length (cI ρ 2).toNat)]
def prN1 (ρ : List D) : Prop := ∃ (dx dy : Int) (x3 x4 x5 x6 x7 x8 x10 : D) (ps acc : List (List D)) (j : Nat), ρ = [.i dx, .i dy, .i (j : Int), x3, x4, x5, x6, x7, x8, .l ps, x10, .l acc] ∧ j ≤ ps.length ∧ ps.length ≤ 512 ∧ acc.length = j
def lpM0 (ρ : List D) : List D := [.i 0, .i ((cL ρ 2).length : Int), .l (cL ρ 9 ++ collN (fun j => [mvI (cI ρ 0) (cI ρ 1) (el (cL ρ 2) j)]) (cL ρ 2).length (cI ρ 4).toNat)]
def okIs (I : List (List D)) : Prop := I.length ≤ 2048 ∧ ∀ j, j < I.length → okIt (el I j) ∧ (cL (el I j) 6).length ≤ 512
def prM0 (ρ : List D) : Prop := ∃ (dx dy : Int) (x5 x6 x7 x8 : D) (I acc : List (List D)) (j : Nat), ρ = [.i dx, .i dy, .l I, .i (I.length : Int), .i (j : Int), x5, x6, x7, x8, .l acc] ∧ j ≤ I.length ∧ okIs I ∧ acc.length = j
def lpN0 (ρ : List D) : List D := [.i 0, .i ((cL ρ 7).length : Int), .l (cL ρ 12 ++ collN (fun j => [mvI (cI ρ 0) (cI ρ 1) (el (cL ρ 7) j)]) (cL ρ 7).length (cI ρ 2).toNat)]
def prN0 (ρ : List D) : Prop := ∃ (dx dy : Int) (x3 x4 x5 x6 x8 x9 x10 x11 : D) (I acc : List (List D)) (j : Nat), ρ = [.i dx, .i dy, .i (j : Int), x3, x4, x5, x6, .l I, x8, x9, x10, x11, .l acc] ∧ j ≤ I.length ∧ okIs I ∧ acc.length = j
theorem coll_one {α : Type} (f : Nat → α) (n : Nat) : collN (fun j => [f j]) n 0 = (List.range n).map f := by
  unfold collN
  rw [List.drop_zero]
  generalize List.range n = l
  induction l with
  | nil => rfl
  | cons a l ih => rw [List.flatMap_cons, ih]; rfl
theorem range_el (xs : List (List D)) : (List.range xs.length).map (fun j => el xs j) = xs := by
  refine List.ext_getElem (by simp) fun i h1 h2 => ?_
  simp [el, List.getD, h2]
theorem coll_map (f : List D → List D) (xs : List (List D)) : collN (fun j => [f (el xs j)]) xs.length 0 = xs.map f := by
  rw [coll_one]
  conv => rhs; rw [← range_el xs, List.map_map]
  rfl
def gItem (c : List (List D)) (i : Int) : List D := [.i 1, .i i, (el c i.toNat).getD 0 default, (el c i.toNat).getD 1 default, (el c i.toNat).getD 2 default, (el c i.toNat).getD 3 default, .l [], .s ⟨#[]⟩]
def rItem (r : List (List D)) (i : Nat) : List D := [.i 3, .i (i : Int), .i 0, .i 0, .i 0, .i 0, .l (cL (el r i) 0), .s ⟨#[]⟩]
def nItem (b : List (List D)) (i : Nat) : List D := [.i 2, .i (i : Int), (el b i).getD 0 default, (el b i).getD 1 default, (el b i).getD 2 default, (el b i).getD 3 default, .l [], .s ⟨#[]⟩]
def tItem (b : List (List D)) (i : Nat) (s : D) : List D := [.i 4, .i (i : Int), (el b i).getD 0 default, (el b i).getD 1 default, (el b i).getD 2 default, (el b i).getD 3 default, .l [], s]
def lItem (N : List (List D)) (k : Nat) (b : List (List D)) (i : Nat) : List (List D) := if (!(cS (el N i) k == ⟨#[]⟩)) = true then [tItem b i ((el N i).getD k default)] else []
def mItem (E : List (List D)) (b : List (List D)) (i : Nat) : List (List D) := if (!(cS (el E i) 4 == ⟨#[]⟩) && !sameQ (rQ (el b i) 0) z4) = true then [tItem b i ((el E i).getD 4 default)] else []
def dItem (g : Gd) (c : List (List D)) (d : Int) (i : Nat) : List (List D) := if (depE g i == d) = true then [gItem c i] else []
def ordD (g : Gd) : List Int := collN (fun d => collN (fun i => if (depE g i == d) = true then [(i : Int)] else []) g.C.length 0) 7 1
def grpsD (ds : List D) : List D := [.l ((ordD (gOf ds)).map encI)]
def okV0 (ds : List D) : Prop := validE (gOf ds) = 0
def lpG (f : Nat → List (List D)) (n i : Nat) (acc : List (List D)) : List D := [.i 0, .i (n : Int), .l (acc ++ collN f n i)]
def ptsR (r : List (List D)) : Prop := ∀ i, i < r.length → (el r i).getD 0 default = .l (cL (el r i) 0) ∧ (cL (el r i) 0).length ≤ 8796093022208
def itemsD (g : Gd) (n c r l : List (List D)) : List (List D) :=
  (ordD g).map (gItem c) ++ collN (fun i => [rItem r i]) g.E.length 0 ++ collN (fun i => [nItem n i]) g.N.length 0 ++ collN (lItem g.N 1 n) g.N.length 0 ++ collN (mItem g.E l) g.E.length 0
def fitB (g : Gd) (n c r l : List (List D)) : Bool := ((((!(validE g == 0) || !((n.length : Int) == (g.N.length : Int))) || !((c.length : Int) == (g.C.length : Int))) || !((r.length : Int) == (g.E.length : Int))) || !((l.length : Int) == (g.E.length : Int)))
def buildS (g : Gd) (n c r l : List (List D)) : Bx × List (List D) × Int :=
  if fitB g n c r l = true then (z4, [], 1) else if validS (itemsD g n c r l) (bndS (itemsD g n c r l)) = 0 then (bndS (itemsD g n c r l), itemsD g n c r l, 0) else (z4, [], validS (itemsD g n c r l) (bndS (itemsD g n c r l)))
def buildD (ds : List D) : List D := outS (buildS (gOf ds) (cL ds 5) (cL ds 6) (cL ds 7) (cL ds 8))
def prBuild (ds : List D) : Prop := ∀ x ∈ cL ds 7, (cL x 0).length ≤ 8796093022208
def prB0 (ρ : List D) : Prop := ∃ (x3 x5 x6 x7 x8 x9 x10 x11 x12 x13 x14 x15 x16 x17 : D) (o c : List (List D)) (acc : List (List D)) (j : Nat), ρ = [.l o, .i (o.length : Int), .i (j : Int), x3, .l c, x5, x6, x7, x8, x9, x10, x11, x12, x13, x14, x15, x16, x17, .l acc] ∧ j ≤ o.length ∧ o.length ≤ 256 ∧ acc.length ≤ 1000 + j ∧ ∀ i, i < o.length → (el o i).getD 0 default = .i (cI (el o i) 0) ∧ 0 ≤ cI (el o i) 0 ∧ cI (el o i) 0 < c.length
def lpB0 (ρ : List D) : List D := lpG (fun i => [gItem (cL ρ 4) (cI (el (cL ρ 0) i) 0)]) ((cL ρ 0).length) (cI ρ 2).toNat (cL ρ 18)
def prB1 (ρ : List D) : Prop := ∃ (x2 x3 x5 x6 x7 x8 x9 x10 x11 x12 x13 x14 x15 x16 : D) (n : Nat) (r : List (List D)) (acc : List (List D)) (j : Nat), ρ = [.i (n : Int), .i (j : Int), x2, x3, .l r, x5, x6, x7, x8, x9, x10, x11, x12, x13, x14, x15, x16, .l acc] ∧ j ≤ n ∧ n ≤ 256 ∧ acc.length ≤ 1000 + j ∧ r.length = n ∧ ptsR r
def lpB1 (ρ : List D) : List D := lpG (fun i => [rItem (cL ρ 4) i]) ((cI ρ 0).toNat) (cI ρ 1).toNat (cL ρ 17)
def prB2 (ρ : List D) : Prop := ∃ (x3 x4 x5 x6 x7 x8 x9 x10 x11 x12 x13 x14 x15 x16 : D) (n : Nat) (b : List (List D)) (acc : List (List D)) (j : Nat), ρ = [.i (n : Int), .i (j : Int), .l b, x3, x4, x5, x6, x7, x8, x9, x10, x11, x12, x13, x14, x15, x16, .l acc] ∧ j ≤ n ∧ n ≤ 256 ∧ acc.length ≤ 1000 + j ∧ b.length = n
def lpB2 (ρ : List D) : List D := lpG (fun i => [nItem (cL ρ 2) i]) ((cI ρ 0).toNat) (cI ρ 1).toNat (cL ρ 17)
def prB3 (ρ : List D) : Prop := ∃ (x4 x5 x6 x7 x8 x9 x10 x11 x12 x13 x14 x15 x16 x17 : D) (N b : List (List D)) (acc : List (List D)) (j : Nat), ρ = [.l N, .i (N.length : Int), .i (j : Int), .l b, x4, x5, x6, x7, x8, x9, x10, x11, x12, x13, x14, x15, x16, x17, .l acc] ∧ j ≤ N.length ∧ N.length ≤ 256 ∧ acc.length ≤ 1000 + j ∧ b.length = N.length
def lpB3 (ρ : List D) : List D := lpG (lItem (cL ρ 0) 1 (cL ρ 3)) ((cL ρ 0).length) (cI ρ 2).toNat (cL ρ 18)
def prB4 (ρ : List D) : Prop := ∃ (x3 x4 x5 x7 x8 x9 x10 x11 x12 x13 x14 x15 x16 x17 : D) (N b : List (List D)) (acc : List (List D)) (j : Nat), ρ = [.l N, .i (N.length : Int), .i (j : Int), x3, x4, x5, .l b, x7, x8, x9, x10, x11, x12, x13, x14, x15, x16, x17, .l acc] ∧ j ≤ N.length ∧ N.length ≤ 256 ∧ acc.length ≤ 1000 + j ∧ b.length = N.length
def lpB4 (ρ : List D) : List D := lpG (mItem (cL ρ 0) (cL ρ 6)) ((cL ρ 0).length) (cI ρ 2).toNat (cL ρ 18)
def prC1 (ρ : List D) : Prop := ∃ (x7 x9 x10 x11 x12 x13 x14 x15 x16 x17 x18 x19 x20 x21 : D) (g : Gd) (d : Int) (c : List (List D)) (acc : List (List D)) (j : Nat), ρ = [.i d, .i (j : Int), .s g.nm, .b g.dr, .l g.N, .l g.E, .l g.C, x7, .l c, x9, x10, x11, x12, x13, x14, x15, x16, x17, x18, x19, x20, x21, .l acc] ∧ j ≤ g.C.length ∧ g.C.length ≤ 16 ∧ acc.length ≤ 16 * d.toNat + j ∧ d ≤ 6 ∧ c.length = g.C.length
def lpC1 (ρ : List D) : List D := lpG (dItem (gOf (ρ.drop 2)) (cL ρ 8) (cI ρ 0)) ((cL ρ 6).length) (cI ρ 1).toNat (cL ρ 22)
def prC0 (ρ : List D) : Prop := ∃ (x6 x8 x9 x10 x11 x12 x13 x14 x15 x16 x17 x18 x19 x20 : D) (g : Gd) (c : List (List D)) (acc : List (List D)) (j : Nat), ρ = [.i (j : Int), .s g.nm, .b g.dr, .l g.N, .l g.E, .l g.C, x6, .l c, x8, x9, x10, x11, x12, x13, x14, x15, x16, x17, x18, x19, x20, .l acc] ∧ j ≤ 7 ∧ g.C.length ≤ 16 ∧ acc.length ≤ 16 * j ∧ c.length = g.C.length
def lpC0 (ρ : List D) : List D := lpG (fun d => collN (dItem (gOf (ρ.drop 1)) (cL ρ 7) d) (cL ρ 5).length 0) (7) (cI ρ 0).toNat (cL ρ 21)
def prC2 (ρ : List D) : Prop := ∃ (x6 x7 x9 x10 x11 x12 x13 x14 x15 x16 x17 x18 x19 x20 : D) (g : Gd) (r : List (List D)) (acc : List (List D)) (j : Nat), ρ = [.i (j : Int), .s g.nm, .b g.dr, .l g.N, .l g.E, .l g.C, x6, x7, .l r, x9, x10, x11, x12, x13, x14, x15, x16, x17, x18, x19, x20, .l acc] ∧ j ≤ g.E.length ∧ g.E.length ≤ 256 ∧ acc.length ≤ 1000 + j ∧ r.length = g.E.length ∧ ptsR r
def lpC2 (ρ : List D) : List D := lpG (fun i => [rItem (cL ρ 8) i]) ((cL ρ 4).length) (cI ρ 0).toNat (cL ρ 21)
def prC3 (ρ : List D) : Prop := ∃ (x7 x8 x9 x10 x11 x12 x13 x14 x15 x16 x17 x18 x19 x20 : D) (g : Gd) (b : List (List D)) (acc : List (List D)) (j : Nat), ρ = [.i (j : Int), .s g.nm, .b g.dr, .l g.N, .l g.E, .l g.C, .l b, x7, x8, x9, x10, x11, x12, x13, x14, x15, x16, x17, x18, x19, x20, .l acc] ∧ j ≤ g.N.length ∧ g.N.length ≤ 256 ∧ acc.length ≤ 1000 + j ∧ b.length = g.N.length
def lpC3 (ρ : List D) : List D := lpG (fun i => [nItem (cL ρ 6) i]) ((cL ρ 3).length) (cI ρ 0).toNat (cL ρ 21)
def prC4 (ρ : List D) : Prop := ∃ (x7 x8 x9 x10 x11 x12 x13 x14 x15 x16 x17 x18 x19 x20 : D) (g : Gd) (b : List (List D)) (acc : List (List D)) (j : Nat), ρ = [.i (j : Int), .s g.nm, .b g.dr, .l g.N, .l g.E, .l g.C, .l b, x7, x8, x9, x10, x11, x12, x13, x14, x15, x16, x17, x18, x19, x20, .l acc] ∧ j ≤ g.N.length ∧ g.N.length ≤ 256 ∧ acc.length ≤ 1000 + j ∧ b.length = g.N.length
def lpC4 (ρ : List D) : List D := lpG (lItem (cL ρ 3) 1 (cL ρ 6)) ((cL ρ 3).length) (cI ρ 0).toNat (cL ρ 21)
def prC5 (ρ : List D) : Prop := ∃ (x6 x7 x8 x10 x11 x12 x13 x14 x15 x16 x17 x18 x19 x20 : D) (g : Gd) (b : List (List D)) (acc : List (List D)) (j : Nat), ρ = [.i (j : Int), .s g.nm, .b g.dr, .l g.N, .l g.E, .l g.C, x6, x7, x8, .l b, x10, x11, x12, x13, x14, x15, x16, x17, x18, x19, x20, .l acc] ∧ j ≤ g.E.length ∧ g.E.length ≤ 256 ∧ acc.length ≤ 1000 + j ∧ b.length = g.E.length
def lpC5 (ρ : List D) : List D := lpG (mItem (cL ρ 4) (cL ρ 9)) ((cL ρ 4).length) (cI ρ 0).toNat (cL ρ 21)
def swp (l : List Int) (j : Nat) : List Int := (l.set (j + 1) (l.getD j 0)).set j (l.getD (j + 1) 0)
def bub (k : Int → Int) : Nat → List Int → Nat × List Int
  | 0, l => (0, l)
  | j + 1, l => if k (l.getD (j + 1) 0) < k (l.getD j 0) then bub k j (swp l j) else (j + 1, l)
def isrt (k : Int → Int) (n i : Nat) (l : List Int) : List Int := foldN (fun i l => (bub k i l).2) n i l
theorem swp_len (l : List Int) (j : Nat) : (swp l j).length = l.length := by simp [swp]
theorem bub_len (k : Int → Int) : ∀ (j : Nat) (l : List Int), (bub k j l).2.length = l.length
  | 0, l => rfl
  | j + 1, l => by
    rw [bub]
    split
    · rw [bub_len k j, swp_len]
    · rfl
theorem getD_one (q s : List Int) (y : Int) : (q ++ y :: s).getD q.length 0 = y := by simp [List.getD]
theorem getD_two (q s : List Int) (y x : Int) : (q ++ y :: x :: s).getD (q.length + 1) 0 = x := by simp [List.getD]
theorem swp_mid (p s : List Int) (x y : Int) : swp (p ++ y :: x :: s) p.length = p ++ x :: y :: s := by
  rw [swp, getD_one, getD_two]
  rw [List.set_append_right _ _ (by omega), List.set_append_right _ _ (by simp)]
  simp
theorem bub_past {k : Int → Int} {x : Int} (p : List Int) : ∀ (m : Nat) (r s : List Int), r.length = m → (∀ y ∈ r, k x < k y) → (bub k (p ++ r).length (p ++ r ++ x :: s)).2 = (bub k p.length (p ++ x :: (r ++ s))).2
  | 0, r, s, hm, _ => by
    obtain rfl := List.eq_nil_of_length_eq_zero hm
    simp
  | m + 1, r, s, hm, h => by
    rcases List.eq_nil_or_concat r with rfl | ⟨r, y, rfl⟩
    · cases hm
    rw [List.concat_eq_append] at h hm ⊢
    have hy : k x < k y := h y (by simp)
    have e1 : (p ++ (r ++ [y])).length = (p ++ r).length + 1 := by simp; omega
    have e2 : p ++ (r ++ [y]) ++ x :: s = (p ++ r) ++ y :: x :: s := by simp
    have e3 : ((p ++ r) ++ y :: x :: s).getD ((p ++ r).length + 1) 0 = x := getD_two _ _ _ _
    have e4 : ((p ++ r) ++ y :: x :: s).getD (p ++ r).length 0 = y := getD_one _ _ _
    rw [e1, e2, bub, e3, e4, if_pos hy, swp_mid, bub_past p m r (y :: s) (by simpa using hm) (fun z hz => h z (by simp [hz]))]
    simp
theorem bub_stop {k : Int → Int} {x : Int} (p s : List Int) (h : ∀ y ∈ p, k y ≤ k x) : (bub k p.length (p ++ x :: s)).2 = p ++ x :: s := by
  rcases List.eq_nil_or_concat p with rfl | ⟨q, y, rfl⟩
  · rfl
  · rw [List.concat_eq_append] at h ⊢
    have hy := h y (by simp)
    have e1 : (q ++ [y]).length = q.length + 1 := by simp
    have e2 : q ++ [y] ++ x :: s = q ++ y :: x :: s := by simp
    rw [e1, e2, bub, getD_two, getD_one, if_neg (by omega)]
def byKey (k : Int → Int) (q : List Int) : Nat → List Int
  | 0 => []
  | m + 1 => byKey k q m ++ q.filter fun x => k x == ((m + 1 : Nat) : Int)
theorem byKey_le {k : Int → Int} {q : List Int} : ∀ (m : Nat), ∀ y ∈ byKey k q m, k y ≤ m
  | 0, y, h => by cases h
  | m + 1, y, h => by
    rw [byKey, List.mem_append] at h
    rcases h with h | h
    · have := byKey_le m y h; omega
    · simp only [List.mem_filter, beq_iff_eq] at h; omega
theorem flt_t {p : Int → Bool} {q : List Int} {x : Int} (h : p x = true) : (q ++ [x]).filter p = q.filter p ++ [x] := by simp [h]
theorem flt_f {p : Int → Bool} {q : List Int} {x : Int} (h : p x = false) : (q ++ [x]).filter p = q.filter p := by simp [h]
theorem byKey_out {k : Int → Int} {q : List Int} {x : Int} : ∀ (m : Nat), (m : Int) < k x → byKey k (q ++ [x]) m = byKey k q m
  | 0, _ => rfl
  | m + 1, h => by
    rw [byKey, byKey, byKey_out m (by omega), flt_f (p := fun x => k x == ((m + 1 : Nat) : Int)) (x := x) (beq_f (by omega))]
theorem bub_byKey {k : Int → Int} {q : List Int} {x : Int} (h1 : 1 ≤ k x) : ∀ (m : Nat) (s : List Int), k x ≤ m → (bub k (byKey k q m).length (byKey k q m ++ x :: s)).2 = byKey k (q ++ [x]) m ++ s
  | 0, s, h => by omega
  | m + 1, s, h => by
    by_cases e : k x = ((m + 1 : Nat) : Int)
    · rw [bub_stop _ _ fun y hy => by rw [e]; exact byKey_le _ y hy]
      rw [byKey, byKey, byKey_out m (by omega), flt_t (p := fun x => k x == ((m + 1 : Nat) : Int)) (x := x) (beq_t e)]
      simp
    · rw [byKey, bub_past _ _ _ _ rfl, bub_byKey h1 m _ (by omega), byKey, flt_f (p := fun x => k x == ((m + 1 : Nat) : Int)) (x := x) (beq_f e)]
      · simp
      · intro y hy
        simp only [List.mem_filter, beq_iff_eq] at hy
        omega
theorem byKey_nil {k : Int → Int} : ∀ m, byKey k [] m = []
  | 0 => rfl
  | m + 1 => by rw [byKey, byKey_nil m]; rfl
theorem byKey_all {k : Int → Int} {m : Nat} : ∀ (n : Nat) (q : List Int), q.length = n → (∀ x ∈ q, 1 ≤ k x ∧ k x ≤ m) → (byKey k q m).length = q.length
  | 0, q, hn, _ => by
    obtain rfl := List.eq_nil_of_length_eq_zero hn
    rw [byKey_nil]
  | n + 1, q, hn, h => by
    rcases List.eq_nil_or_concat q with rfl | ⟨q, x, rfl⟩
    · cases hn
    rw [List.concat_eq_append] at h hn ⊢
    have hx := h x (by simp)
    have e := congrArg List.length (bub_byKey (q := q) hx.1 m [] hx.2)
    rw [bub_len, List.append_nil] at e
    have := byKey_all n q (by simpa using hn) fun y hy => h y (by simp [hy])
    simp only [List.length_append, List.length_cons, List.length_nil] at e ⊢
    omega
theorem isrt_byKey {k : Int → Int} {m : Nat} : ∀ (s q : List Int), (∀ x ∈ q ++ s, 1 ≤ k x ∧ k x ≤ m) → isrt k (q ++ s).length q.length (byKey k q m ++ s) = byKey k (q ++ s) m := by
  intro s
  induction s with
  | nil =>
    intro q h
    unfold isrt
    rw [List.append_nil, fold_end, List.append_nil]
  | cons x s ih =>
    intro q h
    have hx := h x (by simp)
    have hq : (byKey k q m).length = q.length := byKey_all _ q rfl fun y hy => h y (by simp [hy])
    have e1 : q ++ x :: s = (q ++ [x]) ++ s := by simp
    unfold isrt
    rw [fold_next (by simp)]
    have e2 := bub_byKey (q := q) hx.1 m s hx.2
    rw [hq] at e2
    rw [e2]
    have e3 : q.length + 1 = (q ++ [x]).length := by simp
    rw [e3, e1]
    exact ih (q ++ [x]) (by rw [← e1]; exact h)
theorem isrt_all {k : Int → Int} {m : Nat} {q : List Int} (h : ∀ x ∈ q, 1 ≤ k x ∧ k x ≤ m) : isrt k q.length 1 q = byKey k q m := by
  cases q with
  | nil => rw [byKey_nil]; rfl
  | cons x q =>
    have e := isrt_byKey (k := k) (m := m) q [x] (by simpa using h)
    have hx := h x (by simp)
    have e1 := bub_byKey (k := k) (q := []) (x := x) hx.1 m [] hx.2
    rw [byKey_nil] at e1
    have e2 : (bub k 0 [x]).2 = [x] := rfl
    simp only [List.length_nil, List.nil_append, List.append_nil] at e1
    rw [e2] at e1
    rw [← e1] at e
    simpa using e
def kD (g : Gd) (c : Int) : Int := depE g c
def cloG (f : FuncId) (cts : List CT) (g : Gd) : D := .c f [.pt cts] [.p g.ds]
def prSrt (_f : FuncId) (_cts : List CT) (g : Gd) (l : List Int) : Prop := validE g = 0 ∧ l.length ≤ 16 ∧ ∀ c ∈ l, -1 ≤ c ∧ c < 64
def gOfC (d : D) : Gd := gOf (d.ptd.getD 0 default).ptd
def lsI (xs : List (List D)) : List Int := xs.map fun x => cI x 0
theorem lsI_enc (l : List Int) : lsI (l.map encI) = l := by
  unfold lsI
  rw [List.map_map]
  exact (List.map_congr_left fun a _ => rfl).trans (List.map_id l)
def lpSr1 (ρ : List D) : List D := [.i 0, .i ((bub (kD (gOfC (ρ.getD 1 default))) (cI ρ 2).toNat (lsI (cL ρ 3))).1 : Int), .l ((bub (kD (gOfC (ρ.getD 1 default))) (cI ρ 2).toNat (lsI (cL ρ 3))).2.map encI)]
def lpSr0 (ρ : List D) : List D := [.i 0, .i (max (cI ρ 1) (cI ρ 3)), .l ((isrt (kD (gOfC (ρ.getD 2 default))) (cI ρ 1).toNat (cI ρ 3).toNat (lsI (cL ρ 4))).map encI)]
def prSr1 (f : FuncId) (cts : List CT) (ρ : List D) : Prop := ∃ (g : Gd) (l : List Int) (j : Nat), ρ = [.i 0, cloG f cts g, .i (j : Int), .l (l.map encI)] ∧ j < l.length ∧ prSrt f cts g l
def prSr0 (f : FuncId) (cts : List CT) (ρ : List D) : Prop := ∃ (g : Gd) (l : List Int) (j : Nat), ρ = [.i 0, .i (l.length : Int), cloG f cts g, .i (j : Int), .l (l.map encI)] ∧ 1 ≤ j ∧ prSrt f cts g l
def srt1 (d : D) (xs : List (List D)) : D := .l ((isrt (kD (gOfC d)) xs.length 1 (lsI xs)).map encI)
def insD (ds : List D) : List D := [srt1 (ds.getD 3 default) (cL ds 0)]
def prIns (f : FuncId) (cts : List CT) (ds : List D) : Prop := ∃ (g : Gd) (l : List Int), ds = [.l (l.map encI), .i 0, .i (l.length : Int), cloG f cts g] ∧ prSrt f cts g l
def stbD (ds : List D) : List D := [srt1 (ds.getD 2 default) (cL ds 0)]
def prStb (f : FuncId) (cts : List CT) (ds : List D) : Prop := ∃ (g : Gd) (l : List Int), ds = [.l (l.map encI), .i (l.length : Int), cloG f cts g] ∧ prSrt f cts g l
def srtD (ds : List D) : List D := [srt1 (ds.getD 1 default) (cL ds 0)]
def prSt (f : FuncId) (cts : List CT) (ds : List D) : Prop := ∃ (g : Gd) (l : List Int), ds = [.l (l.map encI), cloG f cts g] ∧ prSrt f cts g l
def lpZ0 (ρ : List D) : List D := [.i 0, ρ.getD 3 default, ρ.getD 4 default, ρ.getD 5 default]
def prZ0 (ρ : List D) : Prop := ∃ (n : Nat) (c x2 x3 : D) (xs : List (List D)), ρ = [.i (n : Int), c, x2, x3, .i 20, .l xs] ∧ n < 20
def lpZ1 (ρ : List D) : List D := [.i 0, ρ.getD 2 default, ρ.getD 3 default]
def prZ1 (ρ : List D) : Prop := ∃ (n : Nat) (c : D) (xs : List (List D)), ρ = [.i (n : Int), c, .i 20, .l xs] ∧ n < 20
def never (_ : List D) : Prop := False
def dyDep (ds : List D) : List D := [.i (kD (gOfC (ds.getD 0 default)) (cI ds 1) - kD (gOfC (ds.getD 0 default)) (cI ds 2))]
def dpDep (f : FuncId) (cts : List CT) (ds : List D) : Prop := ∃ (g : Gd) (a b : Int), ds = [cloG f cts g, .i a, .i b] ∧ validE g = 0 ∧ (-1 ≤ a ∧ a < 64) ∧ -1 ≤ b ∧ b < 64
def clpD (ds : List D) : List D := [.i (kD (gOf (ds.getD 2 default).ptd) (cI ds 0) - kD (gOf (ds.getD 2 default).ptd) (cI ds 1))]
def prClp (ds : List D) : Prop := ∃ (g : Gd) (a b : Int), ds = [.i a, .i b, .p g.ds] ∧ validE g = 0 ∧ (-1 ≤ a ∧ a < 64) ∧ -1 ≤ b ∧ b < 64
def idI (n : Nat) : List Int := (List.range n).map fun i : Nat => (i : Int)
def lpId (ρ : List D) : List D := [.i 0, ρ.getD 0 default, .l ((idI (cI ρ 0).toNat).map encI)]
def prId (ρ : List D) : Prop := ∃ n j : Nat, ρ = [.i (n : Int), .i (j : Int), .l ((idI j).map encI)] ∧ j ≤ n ∧ n ≤ 16
theorem depth_pos (C : List (List D)) {c : Int} (h : 0 ≤ c) : 1 ≤ depth C c := by
  unfold depth around
  rw [up, if_pos h]
  simp only [List.length_cons]
  omega
def lpE2 (p : List D → List D → Bool) : List D → List D
  | [.l xs, .l ys, v, .i i] => scanN (fun j => !p (el xs j) (el ys j)) (fun j => [.i 0, .b false, .i (j : Int)]) (fun j => [.i 1, v, .i (j : Int)]) (xs.length - i.toNat) i.toNat
  | _ => []
def prE2 (ρ : List D) : Prop := ∃ (xs ys : List (List D)) (v : D) (j : Nat), ρ = [.l xs, .l ys, v, .i (j : Int)] ∧ j ≤ xs.length ∧ xs.length ≤ maxLen ∧ ys.length = xs.length
def lpE3 : List D → List D
  | [v, .i i, _, _, _, _, .l xs, _, _, _, _, .l ys] => scanN (fun j => !sameItem (el xs j) (el ys j)) (fun j => [.i 0, .b false, .i (j : Int)]) (fun j => [.i 1, v, .i (j : Int)]) (xs.length - i.toNat) i.toNat
  | _ => []
def prE3 (ρ : List D) : Prop := ∃ (v a b c d e f g h : D) (xs ys : List (List D)) (j : Nat), ρ = [v, .i (j : Int), a, b, c, d, .l xs, e, f, g, h, .l ys] ∧ j ≤ xs.length ∧ xs.length ≤ maxLen ∧ ys.length = xs.length
def dySameI (ds : List D) : List D := [.b (sameItem (ds.drop 1) (ds.drop 9))]
def dpSameI (f : FuncId) (ds : List D) : Prop := ∃ as : List D, ds = .c f [] [] :: as ∧ as.length = 16
def nthI (b : List Int) (j : Nat) : Int := b.getD j 0
def farN (b : List Int) (j : Nat) : Bool := decide (268435456 < nthI b j) || decide (nthI b j < -268435456)
def lpBk0 (ρ : List D) : List D := scanN (farN [cI ρ 2, cI ρ 3, cI ρ 4, cI ρ 5]) (fun j => [.i 0, .b true, .i (j : Int)]) (fun j => [.i 1, ρ.getD 0 default, .i (j : Int)]) (4 - (cI ρ 1).toNat) (cI ρ 1).toNat
def prBk0 (ρ : List D) : Prop := ∃ (v : D) (a b c d : Int) (j : Nat), ρ = [v, .i (j : Int), .i a, .i b, .i c, .i d] ∧ j ≤ 4
def lpBk1 (ρ : List D) : List D := [.i 0, .i (-1), .l (cL ρ 6 ++ downN (fun j => [cellsN 8 (el (cL ρ 5) j)]) (cI ρ 0 + 1).toNat)]
def prBk1 (ρ : List D) : Prop := ∃ (a b c d : D) (I acc : List (List D)) (k : Nat), ρ = [.i ((k : Int) - 1), a, b, c, d, .l I, .l acc] ∧ k ≤ I.length ∧ I.length ≤ 2100 ∧ acc.length + k ≤ 4200
def atS (I : List (List D)) (m : Nat) : Nat → Nat → List Int → Bool × Nat × List Int
  | 0, i, a => (true, i, a)
  | f + 1, i, a =>
    if ((cI (el I i) 0 == 1) == decide ((i : Int) < (m : Int))) = true then
      (if (cI (el I i) 0 == 1) = true then (if (decide ((a.length : Int) ≤ cI (el I i) 1) || !(a.getD (cI (el I i) 1).toNat 0 == 0)) = true then (false, i, a) else atS I m f (i + 1) (a.set (cI (el I i) 1).toNat ((i : Int) + 1))) else atS I m f (i + 1) a)
    else (false, i, a)
def atO (v : D) (q : Bool × Nat × List Int) : List D := if q.1 = true then [.i 1, v, .i (q.2.1 : Int), .l (q.2.2.map encI)] else [.i 0, .b false, .i (q.2.1 : Int), .l (q.2.2.map encI)]
def lpLy0 (ρ : List D) : List D := atO (ρ.getD 0 default) (atS (cL ρ 11) (cL ρ 6).length ((cL ρ 11).length - (cI ρ 1).toNat) (cI ρ 1).toNat (lsI (cL ρ 12)))
def prLy0 (ρ : List D) : Prop := ∃ (v x2 x3 x4 x5 x7 x8 x9 x10 : D) (C I : List (List D)) (a : List Int) (j : Nat), ρ = [v, .i (j : Int), x2, x3, x4, x5, .l C, x7, x8, x9, x10, .l I, .l (a.map encI)] ∧ j ≤ I.length ∧ I.length ≤ 2048 ∧ ∀ i, i < I.length → 0 ≤ cI (el I i) 1
def lyP (C : List (List D)) (a : List Int) (c : Nat) : Bool := decide (0 ≤ cI (el C c) 1) && decide (a.getD c 0 ≤ a.getD (cI (el C c) 1).toNat 0)
def lpLy1 (ρ : List D) : List D := scanN (lyP (cL ρ 6) (lsI (cL ρ 7))) (fun j => [.i 0, .b false, .i (j : Int)]) (fun j => [.i 1, ρ.getD 0 default, .i (j : Int)]) ((cL ρ 6).length - (cI ρ 1).toNat) (cI ρ 1).toNat
def prLy1 (ρ : List D) : Prop := ∃ (v x2 x3 x4 x5 : D) (C : List (List D)) (a : List Int) (j : Nat), ρ = [v, .i (j : Int), x2, x3, x4, x5, .l C, .l (a.map encI)] ∧ j ≤ C.length ∧ C.length ≤ 16 ∧ a.length = C.length ∧ okC C C.length
end Go.RV
namespace Go.RV
open Go.RowKit
def oj : Option Bx → Option Bx → Option Bx
  | none, y => y
  | some a, none => some a
  | some a, some b => some (join a b)
def o2s : Option Bx → Bool × Bx
  | none => (false, z4)
  | some a => (true, a)
theorem step_oj (o x : Option Bx) : stepB (o2s o) x = o2s (oj o x) := by
  cases o <;> cases x <;> rfl
theorem bx_ext {a b : Bx} (h1 : a.1 = b.1) (h2 : a.2.1 = b.2.1) (h3 : a.2.2.1 = b.2.2.1) (h4 : a.2.2.2 = b.2.2.2) : a = b := by
  obtain ⟨a1, a2, a3, a4⟩ := a
  obtain ⟨b1, b2, b3, b4⟩ := b
  simp only at h1 h2 h3 h4
  subst h1 h2 h3 h4
  rfl
theorem join_comm (a b : Bx) : join a b = join b a := by
  refine bx_ext ?_ ?_ ?_ ?_ <;> simp only [join] <;> omega
theorem join_right (a b c : Bx) : join (join a b) c = join (join a c) b := by
  refine bx_ext ?_ ?_ ?_ ?_ <;> simp only [join] <;> omega
theorem oj_right (a x y : Option Bx) : oj (oj a x) y = oj (oj a y) x := by
  cases a <;> cases x <;> cases y <;> simp only [oj]
  · rw [join_comm]
  · rw [join_right]
theorem oj_fold (x : Option Bx) : ∀ (l : List (Option Bx)) (a : Option Bx), l.foldl oj (oj a x) = oj (l.foldl oj a) x
  | [], _ => rfl
  | y :: l, a => by rw [List.foldl_cons, List.foldl_cons, oj_right, oj_fold x l]
theorem oj_rev : ∀ (l : List (Option Bx)) (a : Option Bx), l.reverse.foldl oj a = l.foldl oj a
  | [], _ => rfl
  | x :: l, a => by
    rw [List.reverse_cons, List.foldl_append, oj_rev l, List.foldl_cons, List.foldl_nil, List.foldl_cons, oj_fold]
theorem fold_oj : ∀ (l : List (List D)) (o : Option Bx), l.foldl (fun s x => stepB s (ibox x)) (o2s o) = o2s ((l.map ibox).foldl oj o)
  | [], _ => rfl
  | x :: l, o => by
    rw [List.foldl_cons, step_oj, fold_oj l, List.map_cons, List.foldl_cons]
theorem bnd_oj (I : List (List D)) : bndS I = (o2s ((I.map ibox).foldl oj none)).2 := by
  rw [← fold_oj]
  unfold bndS foldB
  rw [foldN_list (fun s x => stepB s (ibox x)) I (false, z4)]
  rfl
theorem turned_eq (I : List (List D)) : downN (fun j => [cellsN 8 (el I j)]) I.length = (I.map (cellsN 8)).reverse := by
  unfold downN
  have e : ∀ l : List Nat, l.flatMap (fun j => [cellsN 8 (el I j)]) = l.map fun j => cellsN 8 (el I j) := fun l => by
    induction l with
    | nil => rfl
    | cons a l ih => rw [List.flatMap_cons, ih]; rfl
  rw [e, List.map_reverse]
  congr 1
  conv => rhs; rw [← range_el I, List.map_map]
  rfl
theorem turned_bnd (I : List (List D)) : bndS (downN (fun j => [cellsN 8 (el I j)]) I.length) = bndS I := by
  rw [turned_eq, bnd_oj, bnd_oj, List.map_reverse, List.map_map, oj_rev]
  rfl
def mv0 (dx dy : Int) (q : Bx) : Bx := (q.1 + dx, q.2.1 + dy, q.2.2.1 + dx, q.2.2.2 + dy)
def sm (n : Int) : Prop := -268435456 ≤ n ∧ n ≤ 268435456
theorem wr_ok {n : Int} (h : -9223372036854775808 ≤ n ∧ n ≤ 9223372036854775807) : wr n = n := w64 h
theorem mvQ_ok {q : Bx} {dx dy : Int} (hq : bxQ q = true) (hx : -536870912 ≤ dx ∧ dx ≤ 536870912) (hy : -536870912 ≤ dy ∧ dy ≤ 536870912) : mvQ dx dy q = mv0 dx dy q := by
  simp only [bxQ, bxB_iff] at hq
  unfold mvQ mv0
  rw [wr_ok (by omega), wr_ok (by omega), wr_ok (by omega), wr_ok (by omega)]
theorem mv0_join (dx dy : Int) (a b : Bx) : join (mv0 dx dy a) (mv0 dx dy b) = mv0 dx dy (join a b) := by
  refine bx_ext ?_ ?_ ?_ ?_ <;> simp only [join, mv0] <;> omega
theorem oj_mv (dx dy : Int) : ∀ (l : List (Option Bx)) (o : Option Bx), (l.map (Option.map (mv0 dx dy))).foldl oj (o.map (mv0 dx dy)) = (l.foldl oj o).map (mv0 dx dy)
  | [], _ => rfl
  | x :: l, o => by
    rw [List.map_cons, List.foldl_cons, List.foldl_cons, ← oj_mv dx dy l]
    congr 1
    cases o <;> cases x <;> simp only [oj, Option.map]
    rw [mv0_join]
theorem sub_mv {a b : Bx} {dx dy : Int} (ha : bxQ a = true) (hs : subQ a b) (hb : bxQ (mv0 dx dy b) = true) : bxQ (mv0 dx dy a) = true := by
  simp only [bxQ, bxB_iff, mv0, subQ] at *
  omega
def pM (dx dy : Int) (ps : List (List D)) : List (List D) := ps.map (mvP dx dy)
def ptI (ps : List (List D)) : Prop := ∀ p ∈ ps, ∃ u v : Int, p = [.i u, .i v]
theorem pM_len (dx dy : Int) (ps : List (List D)) : (pM dx dy ps).length = ps.length := by simp [pM]
theorem pM_el {dx dy : Int} {ps : List (List D)} {j : Nat} (h : j < ps.length) : el (pM dx dy ps) j = mvP dx dy (el ps j) := by
  simp [el, pM, List.getD, h]
theorem pM_x {dx dy : Int} {ps : List (List D)} {j : Nat} (h : j < ps.length) : pX (pM dx dy ps) j = wr (pX ps j + dx) ∧ pY (pM dx dy ps) j = wr (pY ps j + dy) := by
  unfold pX pY
  rw [pM_el h]
  exact ⟨rfl, rfl⟩
theorem growN_sub {xs : List (List D)} : ∀ (n i : Nat) (b : Bx), xs.length - i = n → i ≤ xs.length → subQ b (growN xs i b) ∧ ∀ j, i ≤ j → j < xs.length → subQ (pX xs j, pY xs j, pX xs j, pY xs j) (growN xs i b)
  | 0, i, b, hn, hi => by
    have e : i = xs.length := by omega
    subst e
    rw [growN, fold_end]
    exact ⟨subQ_refl _, fun j h1 h2 => by omega⟩
  | n + 1, i, b, hn, hi => by
    have hi' : i < xs.length := by omega
    rw [growN, fold_next hi']
    obtain ⟨h1, h2⟩ := growN_sub n (i + 1) (grow b (pX xs i) (pY xs i)) (by omega) hi'
    have h3 : subQ b (grow b (pX xs i) (pY xs i)) := by unfold subQ grow; simp only; omega
    have h4 : subQ (pX xs i, pY xs i, pX xs i, pY xs i) (grow b (pX xs i) (pY xs i)) := by unfold subQ grow; simp only; omega
    refine ⟨h3.trans h1, fun j k1 k2 => ?_⟩
    by_cases e : j = i
    · subst e; exact h4.trans h1
    · exact h2 j (by omega) k2
theorem growN_mv {xs : List (List D)} {dx dy : Int} (hx : -536870912 ≤ dx ∧ dx ≤ 536870912) (hy : -536870912 ≤ dy ∧ dy ≤ 536870912) (hp : ∀ j, j < xs.length → ptB (pX xs j) (pY xs j) = true) : ∀ (n i : Nat) (b : Bx), xs.length - i = n → i ≤ xs.length → growN (pM dx dy xs) i (mv0 dx dy b) = mv0 dx dy (growN xs i b)
  | 0, i, b, hn, hi => by
    have e : i = xs.length := by omega
    subst e
    have e2 : xs.length = (pM dx dy xs).length := (pM_len _ _ _).symm
    unfold growN
    conv => lhs; rw [e2]
    rw [fold_end, fold_end]
  | n + 1, i, b, hn, hi => by
    have hi' : i < xs.length := by omega
    have h1 := growN_mv hx hy hp n (i + 1) (grow b (pX xs i) (pY xs i)) (by omega) hi'
    obtain ⟨e1, e2⟩ := pM_x (dx := dx) (dy := dy) hi'
    have hpt := ptB_iff.1 (hp i hi')
    rw [wr_ok (by omega)] at e1 e2
    have e3 : grow (mv0 dx dy b) (pX (pM dx dy xs) i) (pY (pM dx dy xs) i) = mv0 dx dy (grow b (pX xs i) (pY xs i)) := by
      rw [e1, e2]
      refine bx_ext ?_ ?_ ?_ ?_ <;> simp only [grow, mv0] <;> omega
    unfold growN at h1 ⊢
    rw [fold_next (by rw [pM_len]; exact hi'), fold_next hi', e3, h1]
theorem path_mv {xs : List (List D)} {dx dy : Int} (hx : -536870912 ≤ dx ∧ dx ≤ 536870912) (hy : -536870912 ≤ dy ∧ dy ≤ 536870912) (h : pathB xs = true) (hb : bxQ (mv0 dx dy (bndQ xs)) = true) : pathB (pM dx dy xs) = true ∧ bndQ (pM dx dy xs) = mv0 dx dy (bndQ xs) := by
  obtain ⟨h1, h2, h3, h4⟩ := pathB_iff.1 h
  have hq : bndQ xs = growN xs 0 (at0 xs) := if_pos h
  have hsub := (growN_sub (xs := xs) _ 0 (at0 xs) rfl (Nat.zero_le _)).2
  rw [← hq] at hsub
  have hp : pathB (pM dx dy xs) = true := by
    refine pathB_iff.2 ⟨by rw [pM_len]; exact h1, by rw [pM_len]; exact h2, fun j hj => ?_, fun j h0 hj => ?_⟩
    · rw [pM_len] at hj
      obtain ⟨e1, e2⟩ := pM_x (dx := dx) (dy := dy) hj
      have hpt := ptB_iff.1 (h3 j hj)
      have hs := hsub j (Nat.zero_le _) hj
      rw [e1, e2, wr_ok (by omega), wr_ok (by omega)]
      simp only [bxQ, bxB_iff, mv0] at hb
      simp only [subQ] at hs
      rw [ptB_iff]
      omega
    · rw [pM_len] at hj
      obtain ⟨e1, e2⟩ := pM_x (dx := dx) (dy := dy) hj
      obtain ⟨e3, e4⟩ := pM_x (dx := dx) (dy := dy) (by omega : j - 1 < xs.length)
      have hpt := ptB_iff.1 (h3 j hj)
      have hpt' := ptB_iff.1 (h3 (j - 1) (by omega))
      have hd := h4 j h0 hj
      rw [e1, e2, e3, e4, wr_ok (by omega), wr_ok (by omega), wr_ok (by omega), wr_ok (by omega)]
      omega
  refine ⟨hp, ?_⟩
  rw [hq, ← growN_mv hx hy h3 _ 0 (at0 xs) rfl (Nat.zero_le _)]
  have e0 : bndQ (pM dx dy xs) = growN (pM dx dy xs) 0 (at0 (pM dx dy xs)) := if_pos hp
  rw [e0]
  congr 1
  obtain ⟨e1, e2⟩ := pM_x (dx := dx) (dy := dy) (by omega : 0 < xs.length)
  have hpt := ptB_iff.1 (h3 0 (by omega))
  unfold at0
  rw [e1, e2, wr_ok (by omega), wr_ok (by omega)]
  rfl
theorem pM_pM {xs : List (List D)} {dx dy ex ey : Int} (hI : ptI xs) (hx : sm dx) (hy : sm dy) (_hx' : sm ex) (_hy' : sm ey) (hp : ∀ j, j < xs.length → ptB (pX xs j) (pY xs j) = true) : pM ex ey (pM dx dy xs) = pM (dx + ex) (dy + ey) xs := by
  unfold pM
  rw [List.map_map]
  refine List.map_congr_left fun p hm => ?_
  obtain ⟨u, v, e⟩ := hI p hm
  obtain ⟨j, hj, ej⟩ := List.getElem_of_mem hm
  have hpt := ptB_iff.1 (hp j hj)
  have e2 : el xs j = p := by rw [← ej]; simp [el, List.getD, hj]
  unfold pX pY at hpt
  rw [e2, e] at hpt
  have hu : cI ([.i u, .i v] : List D) 0 = u := rfl
  have hv : cI ([.i u, .i v] : List D) 1 = v := rfl
  rw [hu, hv] at hpt
  unfold sm at *
  show mvP ex ey (mvP dx dy p) = mvP (dx + ex) (dy + ey) p
  rw [e]
  show ([.i (wr (wr (u + dx) + ex)), .i (wr (wr (v + dy) + ey))] : List D) = [.i (wr (u + (dx + ex))), .i (wr (v + (dy + ey)))]
  rw [wr_ok (n := u + dx) (by omega), wr_ok (n := v + dy) (by omega), Int.add_assoc, Int.add_assoc]
theorem pM_0 {xs : List (List D)} (hI : ptI xs) (hp : ∀ j, j < xs.length → ptB (pX xs j) (pY xs j) = true) : pM 0 0 xs = xs := by
  unfold pM
  conv => rhs; rw [← List.map_id xs]
  refine List.map_congr_left fun p hm => ?_
  obtain ⟨u, v, e⟩ := hI p hm
  obtain ⟨j, hj, ej⟩ := List.getElem_of_mem hm
  have hpt := ptB_iff.1 (hp j hj)
  have e2 : el xs j = p := by rw [← ej]; simp [el, List.getD, hj]
  unfold pX pY at hpt
  rw [e2, e] at hpt
  have hu : cI ([.i u, .i v] : List D) 0 = u := rfl
  have hv : cI ([.i u, .i v] : List D) 1 = v := rfl
  rw [hu, hv] at hpt
  rw [e]
  show ([.i (wr (u + 0)), .i (wr (v + 0))] : List D) = [.i u, .i v]
  rw [wr_ok (by omega), wr_ok (by omega), Int.add_zero, Int.add_zero]
theorem item_parts {x : List D} (h : itemE x = 0) : (knB x = true ∧ usedB x = true ∧ 0 ≤ cI x 1) ∧ shpB x = true ∧ plainB (cS x 7) = true ∧ ((cS x 7).size : Int) ≤ 32 := by
  unfold itemE at h
  split at h
  · rename_i h1
    simp only [Bool.and_eq_true, Bool.not_eq_true', decide_eq_false_iff_not] at h1
    split at h
    · rename_i h2
      split at h
      · rename_i h3
        simp only [Bool.and_eq_true, Bool.not_eq_true', decide_eq_false_iff_not] at h3
        exact ⟨⟨h1.1.1, h1.1.2, by omega⟩, h2, h3.1, by omega⟩
      · cases h
    · cases h
  · cases h
theorem item_mk {x : List D} (h1 : knB x = true) (h2 : usedB x = true) (h3 : 0 ≤ cI x 1) (h4 : shpB x = true) (h5 : plainB (cS x 7) = true) (h6 : ((cS x 7).size : Int) ≤ 32) : itemE x = 0 := by
  unfold itemE
  rw [h1, h2, h4, h5, decide_eq_false (by omega : ¬ cI x 1 < 0), decide_eq_false (by omega : ¬ 32 < ((cS x 7).size : Int))]
  rfl
structure Good (x : List D) : Prop where
  ok : okIt x
  val : itemE x = 0
theorem good_mv {x : List D} {b : Bx} {dx dy : Int} (hg : Good x) (hx : sm dx) (hy : sm dy) (hs : subQ (ownQ x) b) (hb : bxQ (mv0 dx dy b) = true) : Good (mvI dx dy x) ∧ ibox (mvI dx dy x) = some (mv0 dx dy (ownQ x)) := by
  obtain ⟨⟨k, o, a, b', c, d, ps, s, e, hps⟩, hv⟩ := hg
  obtain ⟨⟨h1, h2, h3⟩, h4, h5, h6⟩ := item_parts hv
  have hib := item_ok hv
  have hown := sub_mv hib.2 hs hb
  unfold sm at hx hy
  subst e
  by_cases hk : k = 3
  · subst hk
    have hsh : pathB ps = true := h4
    have ho : ownQ [.i 3, .i o, .i a, .i b', .i c, .i d, .l ps, .s s] = bndQ ps := rfl
    rw [ho] at hown
    obtain ⟨k1, k2⟩ := path_mv (dx := dx) (dy := dy) (by omega) (by omega) hsh hown
    have em : mvI dx dy [.i 3, .i o, .i a, .i b', .i c, .i d, .l ps, .s s] = [.i 3, .i o, .i a, .i b', .i c, .i d, .l (pM dx dy ps), .s s] := rfl
    rw [em, ho]
    have hok : okIt [.i 3, .i o, .i a, .i b', .i c, .i d, .l (pM dx dy ps), .s s] := ⟨3, o, a, b', c, d, pM dx dy ps, s, rfl, fun p hp => by
      unfold pM at hp
      rw [List.mem_map] at hp
      obtain ⟨y, _, rfl⟩ := hp
      exact ⟨_, _, rfl⟩⟩
    have hi : itemE [.i 3, .i o, .i a, .i b', .i c, .i d, .l (pM dx dy ps), .s s] = 0 := item_mk h1 h2 h3 k1 h5 h6
    refine ⟨⟨hok, hi⟩, ?_⟩
    rw [(item_ok hi).1, ← k2]
    rfl
  · have hk' : ¬ cI ([.i k, .i o, .i a, .i b', .i c, .i d, .l ps, .s s] : List D) 0 = 3 := hk
    have ho : ownQ [.i k, .i o, .i a, .i b', .i c, .i d, .l ps, .s s] = (a, b', c, d) := if_neg hk'
    have hbx : bxQ (a, b', c, d) = true := by rw [← ho]; exact hib.2
    have em : mvI dx dy [.i k, .i o, .i a, .i b', .i c, .i d, .l ps, .s s] = [.i k, .i o, .i (mvQ dx dy (a, b', c, d)).1, .i (mvQ dx dy (a, b', c, d)).2.1, .i (mvQ dx dy (a, b', c, d)).2.2.1, .i (mvQ dx dy (a, b', c, d)).2.2.2, .l (pM dx dy ps), .s s] := if_neg hk'
    rw [mvQ_ok hbx (by omega) (by omega)] at em
    rw [ho] at hown
    rw [em, ho]
    have hp0 : ps.length = 0 := by
      have hu : (!(!(k == 4) && !(s == ⟨#[]⟩)) && (if k = 3 then sameQ (a, b', c, d) z4 else (ps.length : Int) == 0)) = true := h2
      rw [if_neg hk] at hu
      simp only [Bool.and_eq_true, beq_iff_eq] at hu
      omega
    have hu2 : usedB [.i k, .i o, .i (mv0 dx dy (a, b', c, d)).1, .i (mv0 dx dy (a, b', c, d)).2.1, .i (mv0 dx dy (a, b', c, d)).2.2.1, .i (mv0 dx dy (a, b', c, d)).2.2.2, .l (pM dx dy ps), .s s] = true := by
      have hu : (!(!(k == 4) && !(s == ⟨#[]⟩)) && (if k = 3 then sameQ (a, b', c, d) z4 else (ps.length : Int) == 0)) = true := h2
      show (!(!(k == 4) && !(s == ⟨#[]⟩)) && (if k = 3 then sameQ (mv0 dx dy (a, b', c, d)) z4 else ((pM dx dy ps).length : Int) == 0)) = true
      rw [if_neg hk] at hu ⊢
      rw [pM_len]
      exact hu
    have hok : okIt [.i k, .i o, .i (mv0 dx dy (a, b', c, d)).1, .i (mv0 dx dy (a, b', c, d)).2.1, .i (mv0 dx dy (a, b', c, d)).2.2.1, .i (mv0 dx dy (a, b', c, d)).2.2.2, .l (pM dx dy ps), .s s] := ⟨k, o, _, _, _, _, pM dx dy ps, s, rfl, fun p hp => by
      unfold pM at hp
      rw [List.mem_map] at hp
      obtain ⟨y, _, rfl⟩ := hp
      exact ⟨_, _, rfl⟩⟩
    have hsh : shpB [.i k, .i o, .i (mv0 dx dy (a, b', c, d)).1, .i (mv0 dx dy (a, b', c, d)).2.1, .i (mv0 dx dy (a, b', c, d)).2.2.1, .i (mv0 dx dy (a, b', c, d)).2.2.2, .l (pM dx dy ps), .s s] = true := by
      show (if k = 3 then _ else bxQ (mv0 dx dy (a, b', c, d))) = true
      rw [if_neg hk]; exact hown
    have hi := item_mk (x := [.i k, .i o, .i (mv0 dx dy (a, b', c, d)).1, .i (mv0 dx dy (a, b', c, d)).2.1, .i (mv0 dx dy (a, b', c, d)).2.2.1, .i (mv0 dx dy (a, b', c, d)).2.2.2, .l (pM dx dy ps), .s s]) h1 hu2 h3 hsh h5 h6
    refine ⟨⟨hok, hi⟩, ?_⟩
    rw [(item_ok hi).1]
    show some (if k = 3 then _ else mv0 dx dy (a, b', c, d)) = _
    rw [if_neg hk]
theorem mvI_two {x : List D} {dx dy ex ey : Int} (hg : Good x) (hx : sm dx) (hy : sm dy) (hx' : sm ex) (hy' : sm ey) : mvI ex ey (mvI dx dy x) = mvI (dx + ex) (dy + ey) x := by
  obtain ⟨⟨k, o, a, b', c, d, ps, s, e, hps⟩, hv⟩ := hg
  obtain ⟨⟨h1, h2, h3⟩, h4, h5, h6⟩ := item_parts hv
  subst e
  by_cases hk : k = 3
  · subst hk
    have hsh : pathB ps = true := h4
    have hp := (pathB_iff.1 hsh).2.2.1
    show ([.i 3, .i o, .i a, .i b', .i c, .i d, .l (pM ex ey (pM dx dy ps)), .s s] : List D) = [.i 3, .i o, .i a, .i b', .i c, .i d, .l (pM (dx + ex) (dy + ey) ps), .s s]
    rw [pM_pM hps hx hy hx' hy' hp]
  · have hk' : ¬ cI ([.i k, .i o, .i a, .i b', .i c, .i d, .l ps, .s s] : List D) 0 = 3 := hk
    have em : ∀ (dx dy a b' c d : Int) (ps : List (List D)), mvI dx dy [.i k, .i o, .i a, .i b', .i c, .i d, .l ps, .s s] = [.i k, .i o, .i (wr (a + dx)), .i (wr (b' + dy)), .i (wr (c + dx)), .i (wr (d + dy)), .l (pM dx dy ps), .s s] := fun _ _ _ _ _ _ _ => if_neg hk
    have hbx : bxQ (a, b', c, d) = true := by
      have : (if k = 3 then pathB ps else bxQ (a, b', c, d)) = true := h4
      rw [if_neg hk] at this; exact this
    have hp0 : ps = [] := by
      have hu : (!(!(k == 4) && !(s == ⟨#[]⟩)) && (if k = 3 then sameQ (a, b', c, d) z4 else (ps.length : Int) == 0)) = true := h2
      rw [if_neg hk] at hu
      simp only [Bool.and_eq_true, beq_iff_eq] at hu
      exact List.eq_nil_of_length_eq_zero (by omega)
    subst hp0
    simp only [bxQ, bxB_iff] at hbx
    unfold sm at *
    rw [em, em, em, wr_ok (n := a + dx) (by omega), wr_ok (n := b' + dy) (by omega), wr_ok (n := c + dx) (by omega), wr_ok (n := d + dy) (by omega), Int.add_assoc, Int.add_assoc, Int.add_assoc, Int.add_assoc]
    rfl
theorem mvI_0 {x : List D} (hg : Good x) : mvI 0 0 x = x := by
  obtain ⟨⟨k, o, a, b', c, d, ps, s, e, hps⟩, hv⟩ := hg
  obtain ⟨⟨h1, h2, h3⟩, h4, h5, h6⟩ := item_parts hv
  subst e
  by_cases hk : k = 3
  · subst hk
    have hsh : pathB ps = true := h4
    have hp := (pathB_iff.1 hsh).2.2.1
    show ([.i 3, .i o, .i a, .i b', .i c, .i d, .l (pM 0 0 ps), .s s] : List D) = _
    rw [pM_0 hps hp]
  · have em : mvI 0 0 [.i k, .i o, .i a, .i b', .i c, .i d, .l ps, .s s] = [.i k, .i o, .i (wr (a + 0)), .i (wr (b' + 0)), .i (wr (c + 0)), .i (wr (d + 0)), .l (pM 0 0 ps), .s s] := if_neg hk
    have hbx : bxQ (a, b', c, d) = true := by
      have : (if k = 3 then pathB ps else bxQ (a, b', c, d)) = true := h4
      rw [if_neg hk] at this; exact this
    have hp0 : ps = [] := by
      have hu : (!(!(k == 4) && !(s == ⟨#[]⟩)) && (if k = 3 then sameQ (a, b', c, d) z4 else (ps.length : Int) == 0)) = true := h2
      rw [if_neg hk] at hu
      simp only [Bool.and_eq_true, beq_iff_eq] at hu
      exact List.eq_nil_of_length_eq_zero (by omega)
    subst hp0
    simp only [bxQ, bxB_iff] at hbx
    rw [em, wr_ok (by omega), wr_ok (by omega), wr_ok (by omega), wr_ok (by omega), Int.add_zero, Int.add_zero, Int.add_zero, Int.add_zero]
    rfl
theorem sub_bnd {I : List (List D)} (h : ∀ j, j < I.length → itemE (el I j) = 0) : bxQ (bndS I) = true ∧ ∀ j, j < I.length → subQ (ownQ (el I j)) (bndS I) := by
  obtain ⟨h1, _, h3⟩ := foldB_ok h _ 0 (false, z4) rfl (Nat.zero_le _) (by decide)
  exact ⟨h1, fun j hj => h3 j (Nat.zero_le _) hj⟩
theorem el_mem {I : List (List D)} {x : List D} (h : x ∈ I) : ∃ j, j < I.length ∧ el I j = x := by
  obtain ⟨j, hj, e⟩ := List.getElem_of_mem h
  exact ⟨j, hj, by rw [← e]; simp [el, List.getD, hj]⟩
theorem el_map {I : List (List D)} {f : List D → List D} {j : Nat} (h : j < I.length) : el (I.map f) j = f (el I j) := by simp [el, List.getD, h]
theorem move_ok {I : List (List D)} {b : Bx} {dx dy : Int} (hok : ∀ x ∈ I, okIt x) (hx : sm dx) (hy : sm dy) (hv : validS I b = 0) (hne : I ≠ []) (hb : bxQ (mvQ dx dy b) = true) :
    validS (I.map (mvI dx dy)) (mvQ dx dy b) = 0 ∧ ∀ x ∈ I.map (mvI dx dy), okIt x := by
  obtain ⟨h1, h2, h3⟩ := validS_iff.1 hv
  obtain ⟨k1, k2⟩ := sub_bnd h2
  rw [h3] at k1 k2
  have hm : mvQ dx dy b = mv0 dx dy b := mvQ_ok k1 (by unfold sm at hx; omega) (by unfold sm at hy; omega)
  rw [hm] at hb ⊢
  have hg : ∀ x ∈ I, Good (mvI dx dy x) ∧ ibox (mvI dx dy x) = some (mv0 dx dy (ownQ x)) ∧ ibox x = some (ownQ x) := fun x hxm => by
    obtain ⟨j, hj, rfl⟩ := el_mem hxm
    obtain ⟨g1, g2⟩ := good_mv ⟨hok _ hxm, h2 j hj⟩ hx hy (k2 j hj) hb
    exact ⟨g1, g2, (item_ok (h2 j hj)).1⟩
  refine ⟨validS_iff.2 ⟨by rw [List.length_map]; exact h1, fun j hj => ?_, ?_⟩, fun x hxm => ?_⟩
  · rw [List.length_map] at hj
    rw [el_map hj]
    exact (hg _ (getD_mem [] hj)).1.val
  · rw [bnd_oj] at h3 ⊢
    have e : (I.map (mvI dx dy)).map ibox = (I.map ibox).map (Option.map (mv0 dx dy)) := by
      rw [List.map_map, List.map_map]
      refine List.map_congr_left fun x hxm => ?_
      obtain ⟨_, g2, g3⟩ := hg x hxm
      show ibox (mvI dx dy x) = Option.map (mv0 dx dy) (ibox x)
      rw [g2, g3]
      rfl
    have e2 := oj_mv dx dy (I.map ibox) none
    rw [e]
    have e3 : (Option.map (mv0 dx dy) none : Option Bx) = none := rfl
    rw [e3] at e2
    rw [e2]
    cases hr : (I.map ibox).foldl oj none with
    | some q =>
      rw [hr] at h3
      show mv0 dx dy q = mv0 dx dy b
      rw [← h3]
      rfl
    | none =>
      obtain ⟨x, J, rfl⟩ := List.exists_cons_of_ne_nil hne
      exfalso
      have hx0 := (hg x (by simp)).2.2
      have hs : ∀ (l : List (Option Bx)) (q : Bx), ∃ q', l.foldl oj (some q) = some q' := fun l => by
        induction l with
        | nil => exact fun q => ⟨q, rfl⟩
        | cons y l ih => cases y with
          | none => exact fun q => ih q
          | some z => exact fun q => ih (join q z)
      rw [List.map_cons, List.foldl_cons, hx0] at hr
      obtain ⟨q', hq⟩ := hs (J.map ibox) (ownQ x)
      have : (J.map ibox).foldl oj (oj none (some (ownQ x))) = some q' := hq
      rw [hr] at this
      cases this
  · rw [List.mem_map] at hxm
    obtain ⟨y, hy', rfl⟩ := hxm
    exact (hg y hy').1.ok
theorem mvQ_two {b : Bx} {dx dy ex ey : Int} (hb : bxQ b = true) (hb' : bxQ (mvQ dx dy b) = true) (hx : sm dx) (hy : sm dy) (hx' : sm ex) (hy' : sm ey) : mvQ ex ey (mvQ dx dy b) = mvQ (dx + ex) (dy + ey) b := by
  unfold sm at *
  rw [mvQ_ok hb' (by omega) (by omega), mvQ_ok hb (by omega) (by omega), mvQ_ok hb (by omega) (by omega)]
  refine bx_ext ?_ ?_ ?_ ?_ <;> simp only [mv0] <;> omega
theorem far_no {dx dy : Int} (hx : -536870912 ≤ dx ∧ dx ≤ 536870912) (hy : -536870912 ≤ dy ∧ dy ≤ 536870912) : farB dx dy = false := by
  simp only [farB, Bool.or_eq_false_iff, decide_eq_false_iff_not]; omega
theorem mvQ_0 {b : Bx} (hb : bxQ b = true) : mvQ 0 0 b = b := by
  rw [mvQ_ok hb (by omega) (by omega)]
  refine bx_ext ?_ ?_ ?_ ?_ <;> simp only [mv0] <;> omega
theorem back_all {I J : List (List D)} {b q : Bx} {dx dy ex ey : Int} (hok : ∀ x ∈ I, okIt x) (hx : sm dx) (hy : sm dy) (hx' : sm ex) (hy' : sm ey) (h : moveS b I dx dy = (q, J, 0)) :
    moveS q J (-dx) (-dy) = (b, I, 0) ∧ validS J q = 0 ∧ moveS q J ex ey = moveS b I (dx + ex) (dy + ey) := by
  unfold moveS at h
  split at h
  · rename_i hv
    split at h
    · rename_i hl
      have hI : I = [] := List.eq_nil_of_length_eq_zero (by omega)
      subst hI
      simp only [Prod.mk.injEq] at h
      obtain ⟨rfl, rfl, _⟩ := h
      have hb : z4 = b := by
        obtain ⟨_, _, h3⟩ := validS_iff.1 hv
        exact h3
      subst hb
      have e : ∀ u v : Int, moveS z4 [] u v = (z4, [], 0) := fun u v => by unfold moveS; rw [if_pos hv]; rfl
      exact ⟨e _ _, hv, by rw [e, e]⟩
    · rename_i hl
      split at h
      · simp only [Prod.mk.injEq] at h
        cases h.2.2
      · rename_i hf
        simp only [Prod.mk.injEq] at h
        obtain ⟨rfl, rfl, _⟩ := h
        simp only [Bool.or_eq_true, Bool.not_eq_true', not_or, Bool.not_eq_true, Bool.not_eq_false] at hf
        have hne : I ≠ [] := fun h => hl (by rw [h]; rfl)
        obtain ⟨k1, k2⟩ := move_ok hok hx hy hv hne hf.2
        obtain ⟨h1, h2, h3⟩ := validS_iff.1 hv
        have hbb := (sub_bnd h2).1
        rw [h3] at hbb
        have hG : ∀ x ∈ I, Good x := fun x hxm => by
          obtain ⟨j, hj, rfl⟩ := el_mem hxm
          exact ⟨hok _ hxm, h2 j hj⟩
        have hl' : ¬ (((I.map (mvI dx dy)).length : Int) = 0) := by rw [List.length_map]; exact hl
        have hmm : ∀ {u v : Int}, sm u → sm v → (I.map (mvI dx dy)).map (mvI u v) = I.map (mvI (dx + u) (dy + v)) := fun hu hv' => by
          rw [List.map_map]
          exact List.map_congr_left fun x hxm => mvI_two (hG x hxm) hx hy hu hv'
        have hmv : ∀ {u v : Int}, sm u → sm v → moveS (mvQ dx dy b) (I.map (mvI dx dy)) u v = moveS b I (dx + u) (dy + v) := fun {u v} hu hv' => by
          unfold moveS
          rw [if_pos k1, if_pos hv, if_neg hl', if_neg hl, mvQ_two hbb hf.2 hx hy hu hv', hmm hu hv']
          unfold sm at *
          rw [far_no (by omega) (by omega), far_no (by omega) (by omega)]
        refine ⟨?_, k1, hmv hx' hy'⟩
        rw [hmv (by unfold sm at *; omega) (by unfold sm at *; omega), Int.add_right_neg, Int.add_right_neg]
        unfold moveS
        rw [if_pos hv, if_neg hl, far_no (by omega) (by omega), mvQ_0 hbb, hbb, Bool.not_true, Bool.or_false, if_neg (by decide)]
        congr 2
        conv => rhs; rw [← List.map_id I]
        exact List.map_congr_left fun x hxm => mvI_0 (hG x hxm)
  · simp only [Prod.mk.injEq] at h
    cases h.2.2
end Go.RV
