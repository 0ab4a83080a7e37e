/-
  Graphs: the closed forms of the functions and loops.
-/
import Derived.Test.YtpnfcopgmeggoaaRvGr1
namespace Go.RV
open Go.RowKit

/-! ### library functions -/
/-- the first k cells of a row -/
def cellsN (k : Nat) (x : List D) : List D := (List.range k).map fun i => x.getD i default
theorem cellsN_length (k : Nat) (x : List D) : (cellsN k x).length = k := by simp [cellsN]
def ixLp (dy : List D → List D) (k : Nat) : List D → List D
  | [.l xs, c, v, .i _, .i i] => scanN (fun j => ((dy (c :: cellsN k (el xs j))).getD 0 default).bool) (fun j => [.i 0, .i (j : Int), .i (j : Int)]) (fun j => [.i 1, v, .i (j : Int)]) (xs.length - i.toNat) i.toNat
  | _ => []
def ixPr (pd : List D → Prop) (k : Nat) (ρ : List D) : Prop := ∃ (xs : List (List D)) (c v : D) (j : Nat), ρ = [.l xs, c, v, .i (xs.length : Int), .i (j : Int)] ∧ j ≤ xs.length ∧ xs.length ≤ maxLen ∧ ∀ i, i < xs.length → pd (c :: cellsN k (el xs i))
def ixFn (dy : List D → List D) (k : Nat) (ds : List D) : List D := [.i (ixI (fun j => ((dy (ds.getD 1 default :: cellsN k (el (cL ds 0) j))).getD 0 default).bool) (cL ds 0).length)]
def ixPre (pd : List D → Prop) (k : Nat) (ds : List D) : Prop := ∀ i, i < (cL ds 0).length → pd (ds.getD 1 default :: cellsN k (el (cL ds 0) i))
def cfFn (dy : List D → List D) (k : Nat) (ds : List D) : List D := [.b (anyN (fun j => ((dy (ds.getD 1 default :: cellsN k (el (cL ds 0) j))).getD 0 default).bool) (cL ds 0).length)]
def eqfLp (dy : List D → List D) (k : Nat) : List D → List D
  | [.l ys, c, v, .l xs, .i _, .i i] => scanN (fun j => !((dy (c :: (cellsN k (el xs j) ++ cellsN k (el ys j)))).getD 0 default).bool) (fun j => [.i 0, .b false, .i (j : Int)]) (fun j => [.i 1, v, .i (j : Int)]) (xs.length - i.toNat) i.toNat
  | _ => []
def eqfPr (pd : List D → Prop) (k : Nat) (ρ : List D) : Prop := ∃ (ys : List (List D)) (c v : D) (xs : List (List D)) (j : Nat), ρ = [.l ys, c, v, .l xs, .i (xs.length : Int), .i (j : Int)] ∧ j ≤ xs.length ∧ xs.length ≤ maxLen ∧ ys.length = xs.length ∧ ∀ i, i < xs.length → pd (c :: (cellsN k (el xs i) ++ cellsN k (el ys i)))
def eqfFn (dy : List D → List D) (k : Nat) (ds : List D) : List D := [.b (eqR (fun x y => ((dy (ds.getD 2 default :: (cellsN k x ++ cellsN k y))).getD 0 default).bool) (cL ds 0) (cL ds 1))]
def eqfPre (pd : List D → Prop) (k : Nat) (ds : List D) : Prop := (cL ds 0).length = (cL ds 1).length → ∀ i, i < (cL ds 0).length → pd (ds.getD 2 default :: (cellsN k (el (cL ds 0) i) ++ cellsN k (el (cL ds 1) i)))
/-- slices.Equal -/
def eqLp (p : List D → List D → Bool) : List D → List D
  | [.l xs, .l ys, v, .i _, .i i] => scanN (fun j => !p (el xs j) (el ys j)) (fun j => [.i 0, .b false, .i (j : Int)]) (fun j => [.i 1, v, .i (j : Int)]) (xs.length - i.toNat) i.toNat
  | _ => []
def eqPr (ρ : List D) : Prop := ∃ (xs ys : List (List D)) (v : D) (j : Nat), ρ = [.l xs, .l ys, v, .i (xs.length : Int), .i (j : Int)] ∧ j ≤ xs.length ∧ xs.length ≤ maxLen ∧ ys.length = xs.length
def eqFn (p : List D → List D → Bool) (ds : List D) : List D := [.b (eqR p (cL ds 0) (cL ds 1))]
/-- slices.Index, slices.Contains of ints -/
def iiLp : List D → List D
  | [.l xs, .i n, v, .i _, .i i] => scanN (fun j => n == cI (el xs j) 0) (fun j => [.i 0, .i (j : Int), .i (j : Int)]) (fun j => [.i 1, v, .i (j : Int)]) (xs.length - i.toNat) i.toNat
  | _ => []
def iiPr (ρ : List D) : Prop := ∃ (xs : List (List D)) (n : Int) (v : D) (j : Nat), ρ = [.l xs, .i n, v, .i (xs.length : Int), .i (j : Int)] ∧ j ≤ xs.length ∧ xs.length ≤ maxLen
def iiFn (ds : List D) : List D := [.i (ixI (fun j => cI ds 1 == cI (el (cL ds 0) j) 0) (cL ds 0).length)]
def ciFn (ds : List D) : List D := [.b (anyN (fun j => cI ds 1 == cI (el (cL ds 0) j) 0) (cL ds 0).length)]

/-! ### names, labels -/
def letD (ds : List D) : List D := [.b (letB (cI ds 0))]
def digD (ds : List D) : List D := [.b (digB (cI ds 0))]
def lpWord : List D → List D
  | [.s s, .i i] => scanN (wordP s) (fun j => [.i 0, .i (j : Int)]) (fun j => [.i 0, .i (j : Int)]) (s.size - i.toNat) i.toNat
  | _ => []
def prWord (ρ : List D) : Prop := ∃ (s : ByteArray) (j : Nat), ρ = [.s s, .i (j : Int)] ∧ j ≤ s.size ∧ s.size ≤ maxLen
def wordD (ds : List D) : List D := [.i (fs (wordP (cS ds 0)) (cS ds 0).size : Int)]
def kwD (ds : List D) : List D := [.b (kwB (cS ds 0))]
def nameD (ds : List D) : List D := [.b (isName (cS ds 0))]
def lpLab : List D → List D
  | [v, .l bs, .i _, .i i] => scanN (fun j => decide (cI (el bs j) 0 < 32) || decide (126 < cI (el bs j) 0)) (fun j => [.i 0, .i 7, .i (j : Int)]) (fun j => [.i 1, v, .i (j : Int)]) (bs.length - i.toNat) i.toNat
  | _ => []
def prLab (ρ : List D) : Prop := ∃ (v : D) (bs : List (List D)) (j : Nat), ρ = [v, .l bs, .i (bs.length : Int), .i (j : Int)] ∧ j ≤ bs.length ∧ bs.length ≤ maxLen
def labelD (ds : List D) : List D := [.i (labelE (cS ds 0))]
def lpPlain : List D → List D
  | [.s s, v, .i i] => scanN (lblP s) (fun j => [.i 0, .b false, .i (j : Int)]) (fun j => [.i 1, v, .i (j : Int)]) (s.size - i.toNat) i.toNat
  | _ => []
def prPlain (ρ : List D) : Prop := ∃ (s : ByteArray) (v : D) (j : Nat), ρ = [.s s, v, .i (j : Int)] ∧ j ≤ s.size ∧ s.size ≤ maxLen
def plainD (ds : List D) : List D := [.b (plainB (cS ds 0))]
def sizedD (ds : List D) : List D := [.b (sizedB (cI ds 0))]

/-! ### functions that look for a name -/
def dyNm : List D → List D
  | .c _ _ [.p cap] :: x :: _ => [.b (x.str == (cap.getD 0 default).str)]
  | _ => []
def dpNm (f : FuncId) (cts : List CT) (m k : Nat) (ds : List D) : Prop := ∃ (cap bs : List D), ds = .c f [.pt cts] [.p cap] :: bs ∧ cap.length = m ∧ bs.length = k

/-! ### ports -/
def lpPorts : List D → List D
  | [.l xs, v, .l _, .i _, .i i] => errLp (portE xs) v xs.length i.toNat
  | _ => []
def prPorts (ρ : List D) : Prop := ∃ (xs : List (List D)) (v : D) (j : Nat), ρ = [.l xs, v, .l xs, .i (xs.length : Int), .i (j : Int)] ∧ j ≤ xs.length ∧ xs.length ≤ maxLen
def ports8D (ds : List D) : List D := [.i (ports8 (cL ds 0))]
def lpPortsR : List D → List D
  | [.l xs, v, .i i] => errLp (portE xs) v xs.length i.toNat
  | _ => []
def prPortsR (ρ : List D) : Prop := ∃ (xs : List (List D)) (v : D) (j : Nat), ρ = [.l xs, v, .i (j : Int)] ∧ j ≤ xs.length ∧ xs.length ≤ maxLen
def lpPortsI : List D → List D
  | [.l xs, v, .i i, .i k] => scanN (nmP xs (cS (el xs i.toNat) 0)) (fun j => [.i 0, .i 6, .i (j : Int)]) (fun j => [.i 1, v, .i (j : Int)]) (i.toNat - k.toNat) k.toNat
  | _ => []
def prPortsI (ρ : List D) : Prop := ∃ (xs : List (List D)) (v : D) (i j : Nat), ρ = [.l xs, v, .i (i : Int), .i (j : Int)] ∧ j ≤ i ∧ i < xs.length ∧ xs.length ≤ maxLen
def portsD (ds : List D) : List D := [.i (portsE (cL ds 0))]
/-! ### find -/
def findD (ds : List D) : List D := [.i (find (cL ds 2) (cS ds 5))]
def lpFind : List D → List D
  | [.s nm, v, .i i, _, _, .l N, _, _] => scanN (nmP N nm) (fun j => [.i 0, .i (j : Int), .i (j : Int)]) (fun j => [.i 1, v, .i (j : Int)]) (N.length - i.toNat) i.toNat
  | _ => []
def prFind (ρ : List D) : Prop := ∃ (nm : ByteArray) (v : D) (g : Gd) (j : Nat), ρ = [.s nm, v, .i (j : Int), .s g.nm, .b g.dr, .l g.N, .l g.E, .l g.C] ∧ j ≤ g.N.length ∧ g.N.length ≤ maxLen

/-! ### nodes, clusters, edges -/
def nodeD (ds : List D) : List D := [.i (nodeE (cL ds 2) (cL ds 4) (cI ds 5).toNat)]
def prNode (ds : List D) : Prop := ∃ (i : Nat), ds.getD 5 default = .i (i : Int) ∧ i < (cL ds 2).length
def cluD (ds : List D) : List D := [.i (cluE (cL ds 2) (cL ds 4) (cI ds 5).toNat)]
def prClu (ds : List D) : Prop := ∃ (i : Nat), ds.getD 5 default = .i (i : Int) ∧ i < (cL ds 4).length ∧ (cL ds 4).length ≤ 16 ∧ okC (cL ds 4) i
def lpCluR : List D → List D
  | [.i i, v, .i k, _, _, _, _, .l C, .s nm, _] => scanN (nmP C nm) (fun j => [.i 0, .i 6, .i (j : Int)]) (fun j => [.i 1, v, .i (j : Int)]) (i.toNat - k.toNat) k.toNat
  | _ => []
def prCluR (ρ : List D) : Prop := ∃ (i : Nat) (v : D) (g : Gd) (nm : ByteArray) (z : D) (j : Nat), ρ = [.i (i : Int), v, .i (j : Int), .s g.nm, .b g.dr, .l g.N, .l g.E, .l g.C, .s nm, z] ∧ j ≤ i ∧ i < g.C.length ∧ g.C.length ≤ maxLen
def edgeD (ds : List D) : List D := [.i (edgeE (cL ds 2) (ds.drop 5))]

/-! ### around -/
def rowI1 (C : List (List D)) : Prop := ∀ i, i < C.length → (el C i).getD 1 default = .i (cI (el C i) 1)
def atC (C : List (List D)) (c : Int) : Prop := -1 ≤ c ∧ c < C.length ∧ C.length ≤ 16 ∧ okC C (c + 1).toNat
def aroundD (ds : List D) : List D := [.l ((around (cL ds 4) (cI ds 5)).map encI)]
def prAr (ds : List D) : Prop := atC (cL ds 4) (cI ds 5)
def lpAr : List D → List D
  | [.i c, _, _, _, _, .l C, .l acc] => [.i 0, .i (-1), .l (acc ++ (around C c).map encI)]
  | _ => []
def prArL (ρ : List D) : Prop := ∃ (c : Int) (g : Gd) (acc : List (List D)), ρ = [.i c, .s g.nm, .b g.dr, .l g.N, .l g.E, .l g.C, .l acc] ∧ atC g.C c ∧ rowI1 g.C ∧ acc.length + (c + 1).toNat ≤ 16
def depthD (ds : List D) : List D := [.i (depth (cL ds 4) (cI ds 5))]
def lpDep : List D → List D
  | [.i c, .i n, _, _, _, _, .l C] => [.i 0, .i (-1), .i (n + depth C c)]
  | _ => []
def prDep (ρ : List D) : Prop := ∃ (c n : Int) (g : Gd), ρ = [.i c, .i n, .s g.nm, .b g.dr, .l g.N, .l g.E, .l g.C] ∧ atC g.C c ∧ rowI1 g.C ∧ 0 ≤ n ∧ n + (c + 1) ≤ 16

/-! ### valid -/
def gOf (ds : List D) : Gd := ⟨cS ds 0, (ds.getD 1 default).bool, cL ds 2, cL ds 3, cL ds 4⟩
def validD (ds : List D) : List D := [.i (validE (gOf ds))]
def lpV0 : List D → List D | [v, .i _, .i i, _, _, .l N, _, .l C] => errLp (nodeE N C) v N.length i.toNat | _ => []
def prV0 (ρ : List D) : Prop := ∃ (v : D) (g : Gd) (j : Nat), ρ = [v, .i (g.N.length : Int), .i (j : Int), .s g.nm, .b g.dr, .l g.N, .l g.E, .l g.C] ∧ j ≤ g.N.length ∧ g.N.length ≤ maxLen
def lpV1 : List D → List D | [v, .i _, .i i, _, _, .l N, _, .l C] => errLp (cluE N C) v C.length i.toNat | _ => []
def prV1 (ρ : List D) : Prop := ∃ (v : D) (g : Gd) (j : Nat), ρ = [v, .i (g.C.length : Int), .i (j : Int), .s g.nm, .b g.dr, .l g.N, .l g.E, .l g.C] ∧ j ≤ g.C.length ∧ g.C.length ≤ 16 ∧ ∀ k, k < j → cluE g.N g.C k = 0
def lpV2 : List D → List D | [v, .l E, .i _, .i i, _, _, .l N, _, _] => errLp (fun j => edgeE N (el E j)) v E.length i.toNat | _ => []
def prV2 (ρ : List D) : Prop := ∃ (v : D) (g : Gd) (j : Nat), ρ = [v, .l g.E, .i (g.E.length : Int), .i (j : Int), .s g.nm, .b g.dr, .l g.N, .l g.E, .l g.C] ∧ j ≤ g.E.length ∧ g.E.length ≤ maxLen
def lpW0 : List D → List D | [v, .i i, _, _, .l N, _, .l C] => errLp (nodeE N C) v N.length i.toNat | _ => []
def prW0 (ρ : List D) : Prop := ∃ (v : D) (g : Gd) (j : Nat), ρ = [v, .i (j : Int), .s g.nm, .b g.dr, .l g.N, .l g.E, .l g.C] ∧ j ≤ g.N.length ∧ g.N.length ≤ maxLen
def lpW1 : List D → List D | [v, .i i, _, _, .l N, _, .l C] => errLp (cluE N C) v C.length i.toNat | _ => []
def prW1 (ρ : List D) : Prop := ∃ (v : D) (g : Gd) (j : Nat), ρ = [v, .i (j : Int), .s g.nm, .b g.dr, .l g.N, .l g.E, .l g.C] ∧ j ≤ g.C.length ∧ g.C.length ≤ 16 ∧ ∀ k, k < j → cluE g.N g.C k = 0
def lpW2 : List D → List D | [v, .i i, _, _, .l N, .l E, _] => errLp (fun j => edgeE N (el E j)) v E.length i.toNat | _ => []
def prW2 (ρ : List D) : Prop := ∃ (v : D) (g : Gd) (j : Nat), ρ = [v, .i (j : Int), .s g.nm, .b g.dr, .l g.N, .l g.E, .l g.C] ∧ j ≤ g.E.length ∧ g.E.length ≤ maxLen

/-! ### members, common clusters -/
/-- cluster c (-1: the graph) has node v -/
def inN (N C : List (List D)) (c : Int) (v : Nat) : Bool := decide (c < 0) || (around C (cI (el N v) 4)).contains c
def lpHas : List D → List D
  | [.i c, v, .i k, _, _, _, _, .l C] => if (around C k).contains c = true then [.i 0, .b true, .i c] else [.i 1, v, .i (-1)]
  | _ => []
def prHas (ρ : List D) : Prop := ∃ (c : Int) (v : D) (k : Int) (g : Gd), ρ = [.i c, v, .i k, .s g.nm, .b g.dr, .l g.N, .l g.E, .l g.C] ∧ atC g.C k ∧ rowI1 g.C
def hasD (ds : List D) : List D := [.b (inN (cL ds 2) (cL ds 4) (cI ds 5) (cI ds 6).toNat)]
/-- what a valid graph's parts keep -/
def okV (g : Gd) : Prop := g.N.length ≤ 64 ∧ g.C.length ≤ 16 ∧ okC g.C g.C.length ∧ ∀ v, v < g.N.length → -1 ≤ cI (el g.N v) 4 ∧ cI (el g.N v) 4 < g.C.length
def prHasF (ds : List D) : Prop := okV (gOf ds) ∧ -1 ≤ cI ds 5 ∧ ∃ v : Nat, ds.getD 6 default = .i (v : Int) ∧ v < (cL ds 2).length
def inR (N C : List (List D)) (c : Int) (v : Nat) : List (List D) := if inN N C c v = true then [[.i (v : Int)]] else []
def mems (N C : List (List D)) (c : Int) : List (List D) := collN (inR N C c) N.length 0
def memR (g : Gd) (c : Int) : List (List D) := if validE g = 0 ∧ -1 ≤ c ∧ c < g.C.length then mems g.N g.C c else []
def memD (ds : List D) : List D := [.l (memR (gOf ds) (cI ds 5))]
def lpMem : List D → List D
  | [.i c, .l _, .i _, .i i, _, _, .l N, _, .l C, .l acc] => [.i 0, .i (N.length : Int), .l (acc ++ collN (inR N C c) N.length i.toNat)]
  | _ => []
def prMem (ρ : List D) : Prop := ∃ (c : Int) (g : Gd) (j : Nat) (acc : List (List D)), ρ = [.i c, .l g.N, .i (g.N.length : Int), .i (j : Int), .s g.nm, .b g.dr, .l g.N, .l g.E, .l g.C, .l acc] ∧ j ≤ g.N.length ∧ okV g ∧ -1 ≤ c ∧ acc.length ≤ j
def lpMemR : List D → List D
  | [.i c, .i i, _, _, .l N, _, .l C, .l acc] => [.i 0, .i (N.length : Int), .l (acc ++ collN (inR N C c) N.length i.toNat)]
  | _ => []
def prMemR (ρ : List D) : Prop := ∃ (c : Int) (g : Gd) (j : Nat) (acc : List (List D)), ρ = [.i c, .i (j : Int), .s g.nm, .b g.dr, .l g.N, .l g.E, .l g.C, .l acc] ∧ j ≤ g.N.length ∧ okV g ∧ -1 ≤ c ∧ acc.length ≤ j
def depE (g : Gd) (c : Int) : Int := if validE g = 0 ∧ -1 ≤ c ∧ c < g.C.length then depth g.C c else 0
def depED (ds : List D) : List D := [.i (depE (gOf ds) (cI ds 5))]
/-- the first of l that o has -/
def firstIn (o l : List Int) : Int := if fs (fun j => o.contains (l.getD j 0)) l.length < l.length then l.getD (fs (fun j => o.contains (l.getD j 0)) l.length) 0 else -1
def comE (g : Gd) (a b : Int) : Int := if validE g = 0 ∧ (0 ≤ a ∧ a < g.N.length) ∧ 0 ≤ b ∧ b < g.N.length then firstIn (around g.C (cI (el g.N b.toNat) 4)) (around g.C (cI (el g.N a.toNat) 4)) else -1
def comD (ds : List D) : List D := [.i (comE (gOf ds) (cI ds 5) (cI ds 6))]
def lpCom : List D → List D
  | [v, .l o, .l l, .i _, .i i] => scanN (fun j => anyN (fun k => cI (el l j) 0 == cI (el o k) 0) o.length) (fun j => [.i 0, (el l j).getD 0 default, .i (j : Int)]) (fun j => [.i 1, v, .i (j : Int)]) (l.length - i.toNat) i.toNat
  | _ => []
def prCom (ρ : List D) : Prop := ∃ (v : D) (o l : List (List D)) (j : Nat), ρ = [v, .l o, .l l, .i (l.length : Int), .i (j : Int)] ∧ j ≤ l.length ∧ l.length ≤ maxLen
def bestF (N C : List (List D)) (a b : Int) (j : Nat) (m : Int) : Int := if inN N C j a.toNat = true ∧ inN N C j b.toNat = true ∧ depth C m < depth C j then j else m
def lpComR : List D → List D
  | [.i a, .i b, .i m, .i i, _, _, .l N, _, .l C] => [.i 0, .i (foldN (bestF N C a b) C.length i.toNat m), .i (C.length : Int)]
  | _ => []
def prComR (ρ : List D) : Prop := ∃ (a b : Nat) (m : Int) (j : Nat) (g : Gd), ρ = [.i (a : Int), .i (b : Int), .i m, .i (j : Int), .s g.nm, .b g.dr, .l g.N, .l g.E, .l g.C] ∧ j ≤ g.C.length ∧ okV g ∧ -1 ≤ m ∧ m < j ∧ a < g.N.length ∧ b < g.N.length

/-! ### equal lists, skeletons -/
def sameI1 (x y : List D) : Bool := cI x 0 == cI y 0
def lpSI : List D → List D
  | [.l xs, .l ys, v, .i i] => scanN (fun j => !sameI1 (el xs j) (el ys j)) (fun j => [.i 0, .b false, .i (j : Int)]) (fun j => [.i 1, v, .i (j : Int)]) (xs.length - i.toNat) i.toNat
  | _ => []
def prSI (ρ : List D) : Prop := ∃ (xs ys : List (List D)) (v : D) (j : Nat), ρ = [.l xs, .l ys, v, .i (j : Int)] ∧ j ≤ xs.length ∧ xs.length ≤ maxLen ∧ ys.length = xs.length
def sameI2 (x y : List D) : Bool := (cI x 0 == cI y 0) && (cI x 1 == cI y 1)
def lpSA : List D → List D
  | [v, .i i, _, .l xs, _, .l ys] => scanN (fun j => !sameI2 (el xs j) (el ys j)) (fun j => [.i 0, .b false, .i (j : Int)]) (fun j => [.i 1, v, .i (j : Int)]) (xs.length - i.toNat) i.toNat
  | _ => []
def prSA (ρ : List D) : Prop := ∃ (v : D) (m : D) (xs : List (List D)) (n : D) (ys : List (List D)) (j : Nat), ρ = [v, .i (j : Int), m, .l xs, n, .l ys] ∧ j ≤ xs.length ∧ xs.length ≤ maxLen ∧ ys.length = xs.length
def saD (ds : List D) : List D := [.b ((cI ds 0 == cI ds 2) && eqR sameI2 (cL ds 1) (cL ds 3))]
def sk (E : List (List D)) (j : Nat) : List (List D) := [[(el E j).getD 0 default, (el E j).getD 1 default]]
def lpSk : List D → List D
  | [.l E, .i _, .i i, _, .l acc] => [.i 0, .i (E.length : Int), .l (acc ++ collN (sk E) E.length i.toNat)]
  | _ => []
def prSk (ρ : List D) : Prop := ∃ (E : List (List D)) (j : Nat) (n : D) (acc : List (List D)), ρ = [.l E, .i (E.length : Int), .i (j : Int), n, .l acc] ∧ j ≤ E.length ∧ E.length ≤ 1000000 ∧ acc.length = j
def lpSkR : List D → List D
  | [.i i, _, _, _, .l E, _, _, .l acc] => [.i 0, .i (E.length : Int), .l (acc ++ collN (sk E) E.length i.toNat)]
  | _ => []
def prSkR (ρ : List D) : Prop := ∃ (j : Nat) (a b c : D) (E : List (List D)) (d n : D) (acc : List (List D)), ρ = [.i (j : Int), a, b, c, .l E, d, n, .l acc] ∧ j ≤ E.length ∧ E.length ≤ 1000000 ∧ acc.length = j
def skD (ds : List D) : List D := [.i ((cL ds 2).length : Int), .l (collN (sk (cL ds 3)) (cL ds 3).length 0)]
def skPre (ds : List D) : Prop := (cL ds 3).length ≤ 1000000
def sameNodeD (ds : List D) : List D := [.b (sameNodeB ds (ds.drop 6))]
def sameD (ds : List D) : List D := [.b (sameG (gOf ds) (gOf (ds.drop 5)))]
def dySame : List D → List D
  | .c _ _ _ :: ds => [.b (sameNodeB ds (ds.drop 6))]
  | _ => []
def dpSame (f : FuncId) (ds : List D) : Prop := ∃ as : List D, ds = .c f [] [] :: as ∧ as.length = 12
def lpSN : List D → List D
  | [v, .i i, _, _, _, _, _, .l xs, _, _, _, _, _, .l ys] => scanN (fun j => !sameRow2 (el xs j) (el ys j)) (fun j => [.i 0, .b false, .i (j : Int)]) (fun j => [.i 1, v, .i (j : Int)]) (xs.length - i.toNat) i.toNat
  | _ => []
def prSN (ρ : List D) : Prop := ∃ (v a b c d e : D) (xs : List (List D)) (a' b' c' d' e' : D) (ys : List (List D)) (j : Nat), ρ = [v, .i (j : Int), a, b, c, d, e, .l xs, a', b', c', d', e', .l ys] ∧ j ≤ xs.length ∧ xs.length ≤ maxLen ∧ ys.length = xs.length
def lpSG (p : List D → List D → Bool) (xs ys : List (List D)) (v : D) (i : Nat) : List D := scanN (fun j => !p (el xs j) (el ys j)) (fun j => [.i 0, .b false, .i (j : Int)]) (fun j => [.i 1, v, .i (j : Int)]) (xs.length - i) i
def lpS0 : List D → List D | [v, .i i, _, _, .l xs, _, _, _, _, .l ys, _, _] => lpSG sameNodeB xs ys v i.toNat | _ => []
def prS0 (ρ : List D) : Prop := ∃ (v : D) (g h : Gd) (j : Nat), ρ = [v, .i (j : Int), .s g.nm, .b g.dr, .l g.N, .l g.E, .l g.C, .s h.nm, .b h.dr, .l h.N, .l h.E, .l h.C] ∧ j ≤ g.N.length ∧ g.N.length ≤ maxLen ∧ h.N.length = g.N.length
def lpS1 : List D → List D | [v, .i i, _, _, _, .l xs, _, _, _, _, .l ys, _] => lpSG sameEdgeB xs ys v i.toNat | _ => []
def prS1 (ρ : List D) : Prop := ∃ (v : D) (g h : Gd) (j : Nat), ρ = [v, .i (j : Int), .s g.nm, .b g.dr, .l g.N, .l g.E, .l g.C, .s h.nm, .b h.dr, .l h.N, .l h.E, .l h.C] ∧ j ≤ g.E.length ∧ g.E.length ≤ maxLen ∧ h.E.length = g.E.length
def lpS2 : List D → List D | [v, .i i, _, _, _, _, .l xs, _, _, _, _, .l ys] => lpSG sameRow2 xs ys v i.toNat | _ => []
def prS2 (ρ : List D) : Prop := ∃ (v : D) (g h : Gd) (j : Nat), ρ = [v, .i (j : Int), .s g.nm, .b g.dr, .l g.N, .l g.E, .l g.C, .s h.nm, .b h.dr, .l h.N, .l h.E, .l h.C] ∧ j ≤ g.C.length ∧ g.C.length ≤ maxLen ∧ h.C.length = g.C.length
end Go.RV
