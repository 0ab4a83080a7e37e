/-
  Radial drawings: the tables of closed forms.
-/
import Derived.Test.YtdehhmcfhaeheaaRvRad2
import Derived.Test.YtdehhmcfhaeheaaRvRows4
namespace Go.Proofs.Ytdehhmcfhaeheaa.rv
open Go.RV

def dp (xs : List (List D)) : List Int := xs.map decI
/-! ### forests -/
def lp22 : List D → List D
  | [v, .l xs, .i _, .i i] => scanN (badV (dp xs)) (fun j => [.i 0, .b false, .i (j : Int)]) (fun j => [.i 1, v, .i (j : Int)]) (xs.length - i.toNat) i.toNat
  | _ => []
def pr22 (ρ : List D) : Prop := ∃ (v : D) (l : List Int) (j : Nat), ρ = [v, .l (l.map encI), .i (l.length : Int), .i (j : Int)] ∧ j ≤ l.length ∧ l.length ≤ maxLen
def lp19 : List D → List D
  | [.l xs, v, .i i] => scanN (badV (dp xs)) (fun j => [.i 0, .b false, .i (j : Int)]) (fun j => [.i 1, v, .i (j : Int)]) (xs.length - i.toNat) i.toNat
  | _ => []
def pr19 (ρ : List D) : Prop := ∃ (v : D) (l : List Int) (j : Nat), ρ = [.l (l.map encI), v, .i (j : Int)] ∧ j ≤ l.length ∧ l.length ≤ maxLen
def okD : List D → List D
  | [.l xs] => [.b (okF (dp xs))]
  | _ => []
def lPre (ds : List D) : Prop := ∃ l : List Int, ds = [.l (l.map encI)] ∧ l.length ≤ maxLen
def fPre (ds : List D) : Prop := ∃ l : List Int, ds = [.l (l.map encI)] ∧ Forest l

/-! ### leaves -/
def Lrow (p : List Int) : List Int := rowF (L p) p.length
/-- the leaves that the vertices k, k + 1, .. have given -/
def down (p : List Int) (k v : Nat) : Int := if k ≤ v then L p v else S p v - B p v k
def lp12 : List D → List D
  | [.l xs, .i _, .l _] => [.i 0, .i (-1), .l ((Lrow (dp xs)).map encI)]
  | _ => []
def pr12 (ρ : List D) : Prop := ∃ (p : List Int) (k : Nat), ρ = [.l (p.map encI), .i ((k : Int) - 1), .l ((rowF (down p k) p.length).map encI)] ∧ Forest p ∧ k ≤ p.length
def leavesD : List D → List D
  | [.l xs] => [.l ((if okF (dp xs) = true then Lrow (dp xs) else []).map encI)]
  | _ => []

/-! ### angles -/
def Arow (p : List Int) : List Int := rowF (ang p) p.length
def angD : List D → List D
  | [.l xs] => [.l ((if okF (dp xs) = true then Arow (dp xs) else []).map encI), .i (if okF (dp xs) = true then 0 else 1)]
  | _ => []
def lp9a : List D → List D
  | [.l _, .l xs, .i n, .i _, .i _, .i _, .i _, .i _] => [.i 0, .i n, .i (S (dp xs) (-1))]
  | _ => []
def pr9a (ρ : List D) : Prop := ∃ (p : List Int) (i : Nat) (a b c : Int), ρ = [.l ((Lrow p).map encI), .l (p.map encI), .i (p.length : Int), .i (i : Int), .i a, .i b, .i (B p (-1) i), .i c] ∧ Forest p ∧ i ≤ p.length
def wrow (p : List Int) (i v : Nat) : Bx := if v < i then ((W p v).1, (W p v).2, L p v, B p v i) else (0, 0, 0, 0)
def lp9b : List D → List D
  | [.l _, .l xs, .i n, .i _, .i _, .i _, .i _, .i _, .l _, .l _] => [.i 0, .i n, .i (S (dp xs) (-1)), .l ((rowF (wrow (dp xs) xs.length) xs.length).map encQ), .l ((Arow (dp xs)).map encI)]
  | _ => []
def pr9b (ρ : List D) : Prop := ∃ (p : List Int) (i : Nat), ρ = [.l ((Lrow p).map encI), .l (p.map encI), .i (p.length : Int), .i (i : Int), .i 0, .i 360, .i (S p (-1)), .i (B p (-1) i), .l ((rowF (wrow p i) p.length).map encQ), .l ((rowF (ang p) i).map encI)] ∧ Forest p ∧ i ≤ p.length
/-- a wedge and what it has given: numbers within bounds -/
def wOk (q : Bx) (n : Int) : Prop := (0 ≤ q.1 ∧ q.1 ≤ 360) ∧ (0 ≤ q.2.1 ∧ q.2.1 ≤ 360) ∧ (1 ≤ q.2.2.1 ∧ q.2.2.1 ≤ 64) ∧ 0 ≤ q.2.2.2 ∧ 0 ≤ n ∧ q.2.2.2 + n ≤ 64
def pw (q : Bx) (n : Int) : Int × Int := part1 (q.1, q.2.1) q.2.2.2 q.2.2.1 n
def partR : List D → List D
  | [.l xs, .i k, .i n] => let l := xs.map decQ; let q := l.getD k.toNat q0; [.i 0, .l ((l.set k.toNat (q.1, q.2.1, q.2.2.1, q.2.2.2 + n)).map encQ), .i (pw q n).1, .i (pw q n).2, .i 0, .i 0]
  | _ => []
def partRpre (ρ : List D) : Prop := ∃ (l : List Bx) (k : Nat) (n : Int), ρ = [.l (l.map encQ), .i (k : Int), .i n] ∧ k < l.length ∧ wOk (l.getD k q0) n
def partB : List D → List D
  | [.i a, .i b, .i c, .i d, .i n] => [.i 0, .i (d + n), .i (pw (a, b, c, d) n).1, .i (pw (a, b, c, d) n).2, .i 0, .i 0]
  | _ => []
def partBpre (ρ : List D) : Prop := ∃ (q : Bx) (n : Int), ρ = [.i q.1, .i q.2.1, .i q.2.2.1, .i q.2.2.2, .i n] ∧ wOk q n
def ft (p : List Int) (v : Nat) : Pt := ((W p v).1, (W p v).1 + (W p v).2)
def lp24 : List D → List D
  | [.l xs, .l _, .i _, .l _] => [.i 0, .i (xs.length : Int), .l ((rowF (ft (dp xs)) xs.length).map encP)]
  | _ => []
def pr24 (ρ : List D) : Prop := ∃ (p : List Int) (i : Nat), ρ = [.l (p.map encI), .l ((Lrow p).map encI), .i (i : Int), .l ((rowF (ft p) i).map encP)] ∧ Forest p ∧ i ≤ p.length
def lp24i : List D → List D
  | [.l xs, .l _, .i v, .i _, .i _, .i _] => [.i 0, .i (S (dp xs) (par (dp xs) v.toNat)), .i (B (dp xs) (par (dp xs) v.toNat) v.toNat), .i (xs.length : Int)]
  | _ => []
def pr24i (ρ : List D) : Prop := ∃ (p : List Int) (v u : Nat), ρ = [.l (p.map encI), .l ((Lrow p).map encI), .i (v : Int), .i (B p (par p v) u), .i (B p (par p v) (min u v)), .i (u : Int)] ∧ Forest p ∧ v < p.length ∧ u ≤ p.length
def wedgesD : List D → List D
  | [.l xs] => [.l ((rowF (ft (dp xs)) xs.length).map encP)]
  | _ => []
def lp10 : List D → List D
  | [.l ws, .i i, .l acc] => [.i 0, .i (ws.length : Int), .l ((acc.map decI ++ collN (fun j => [((ws.map decP).getD j p0).1 + (((ws.map decP).getD j p0).2 - ((ws.map decP).getD j p0).1) / 2]) ws.length i.toNat).map encI)]
  | _ => []
def pr10 (ρ : List D) : Prop := ∃ (w : List Pt) (i : Nat) (acc : List Int), ρ = [.l (w.map encP), .i (i : Int), .l (acc.map encI)] ∧ (w.length ≤ 64 ∧ ∀ q ∈ w, 0 ≤ q.1 ∧ q.1 ≤ q.2 ∧ q.2 ≤ 360) ∧ i ≤ w.length ∧ acc.length = i

/-! ### rings -/
def Rrow (p : List Int) : List Int := rowF (rg p) p.length
def rts (p : List Int) (i : Nat) : Int := sumTo (fun v => if par p v < 0 then 1 else 0) i
def lp20a : List D → List D
  | [.l xs, .i _, .i _] => [.i 0, .i (roots (dp xs)), .i (xs.length : Int)]
  | _ => []
def pr20a (ρ : List D) : Prop := ∃ (p : List Int) (i : Nat), ρ = [.l (p.map encI), .i (rts p i), .i (i : Int)] ∧ Forest p ∧ i ≤ p.length
def lp20b : List D → List D
  | [.l xs, .i _, .i _, .l _] => [.i 0, .i (xs.length : Int), .l ((Rrow (dp xs)).map encI)]
  | _ => []
def pr20b (ρ : List D) : Prop := ∃ (p : List Int) (i : Nat), ρ = [.l (p.map encI), .i (roots p), .i (i : Int), .l ((rowF (rg p) i).map encI)] ∧ Forest p ∧ i ≤ p.length
def lp25a : List D → List D
  | [.i _, .l xs, .i n, .i _] => [.i 0, .i (roots (dp xs)), .i n]
  | _ => []
def pr25a (ρ : List D) : Prop := ∃ (p : List Int) (i : Nat), ρ = [.i (rts p i), .l (p.map encI), .i (p.length : Int), .i (i : Int)] ∧ Forest p ∧ i ≤ p.length
def rup (p : List Int) (i v : Nat) : Int := if v < i then rg p v else 0
def lp25b : List D → List D
  | [.i _, .l xs, .i n, .i _, .l _] => [.i 0, .i n, .l ((Rrow (dp xs)).map encI)]
  | _ => []
def pr25b (ρ : List D) : Prop := ∃ (p : List Int) (i : Nat), ρ = [.i (roots p), .l (p.map encI), .i (p.length : Int), .i (i : Int), .l ((rowF (rup p i) p.length).map encI)] ∧ Forest p ∧ i ≤ p.length
def ringD : List D → List D
  | [.l xs] => [.l ((Rrow (dp xs)).map encI)]
  | _ => []
def mxF (l : List Int) (i : Nat) (m : Int) : Int := foldN (fun j m => max m (l.getD j 0)) l.length i m
def lp26 : List D → List D
  | [.l xs, .i m, .i i] => [.i 0, .i (mxF (dp xs) i.toNat m), .i (xs.length : Int)]
  | _ => []
def pr26 (ρ : List D) : Prop := ∃ (l : List Int) (m : Int) (i : Nat), ρ = [.l (l.map encI), .i m, .i (i : Int)] ∧ i ≤ l.length ∧ l.length ≤ maxLen
def maxD : List D → List D
  | [.l xs] => [.i (mxF (dp xs) 1 ((dp xs).getD 0 0))]
  | _ => []
def maxPre (ds : List D) : Prop := ∃ l : List Int, ds = [.l (l.map encI)] ∧ 1 ≤ l.length ∧ l.length ≤ maxLen

/-! ### places -/
def tooFar (p : List Int) (step : Int) (v : Nat) : Bool := decide (0 < rg p v) && decide (1048576 / rg p v < step)
def perr (p : List Int) (step : Int) : Int := if okF p = true ∧ 0 ≤ step then (if anyN (tooFar p step) p.length = true then 2 else 0) else 1
def pt (p : List Int) (step : Int) (v : Nat) : Pt := pol 0 0 (rg p v * step) (ang p v)
def pts (p : List Int) (step : Int) : List Pt := if perr p step = 0 then rowF (pt p step) p.length else []
def placeD : List D → List D
  | [.l xs, .i s] => [.l ((pts (dp xs) s).map encP), .i (perr (dp xs) s)]
  | _ => []
def plPre (ds : List D) : Prop := ∃ (l : List Int) (s : Int), ds = [.l (l.map encI), .i s] ∧ l.length ≤ maxLen ∧ (-9223372036854775808 ≤ s ∧ s ≤ 9223372036854775807)
def goodS (p : List Int) (s : Int) : Prop := Forest p ∧ 0 ≤ s ∧ s ≤ 9223372036854775807 ∧ anyN (tooFar p s) p.length = false
def stepsF (A R : List Int) (s : Int) (j : Nat) : List Pt := [pol 0 0 (R.getD j 0 * s) (A.getD j 0)]
def lp14 : List D → List D
  | [.i s, .l A, .l R, .i n, .i i, .l acc] => [.i 0, .i n, .l ((acc.map decP ++ collN (stepsF (dp A) (dp R) s) R.length i.toNat).map encP)]
  | _ => []
def pr14 (ρ : List D) : Prop := ∃ (p : List Int) (s : Int) (i : Nat) (acc : List Pt), ρ = [.i s, .l ((Arow p).map encI), .l ((Rrow p).map encI), .i (p.length : Int), .i (i : Int), .l (acc.map encP)] ∧ goodS p s ∧ i ≤ p.length ∧ acc.length = i
def lp15b : List D → List D
  | [.i s, .l R, .l A, .i i, .l acc] => [.i 0, .i (R.length : Int), .l ((acc.map decP ++ collN (stepsF (dp A) (dp R) s) R.length i.toNat).map encP)]
  | _ => []
def pr15b (ρ : List D) : Prop := ∃ (p : List Int) (s : Int) (i : Nat) (acc : List Pt), ρ = [.i s, .l ((Rrow p).map encI), .l ((Arow p).map encI), .i (i : Int), .l (acc.map encP)] ∧ goodS p s ∧ i ≤ p.length ∧ acc.length = i
def farR (R : List Int) (s : Int) (j : Nat) : Bool := decide (0 < R.getD j 0) && decide (1048576 / R.getD j 0 < s)
def lp15a : List D → List D
  | [.i s, v, e, .l R, .i i] => scanN (farR (dp R) s) (fun j => [.i 0, .l [], .i 2, .i (j : Int)]) (fun j => [.i 1, v, e, .i (j : Int)]) (R.length - i.toNat) i.toNat
  | _ => []
def pr15a (ρ : List D) : Prop := ∃ (p : List Int) (s : Int) (v e : D) (i : Nat), ρ = [.i s, v, e, .l ((Rrow p).map encI), .i (i : Int)] ∧ Forest p ∧ i ≤ p.length
def stp (n s : Int) : Int := if n < 1 ∨ 64 < n ∨ s < 0 ∨ 1048576 < s then 0 else (60 * ((3 * s + 1) / 2 + 256) + min 60 (360 / n) - 1) / min 60 (360 / n)
def stpD : List D → List D
  | [.i n, .i s] => [.i (stp n s)]
  | _ => []

/-! ### equal lists -/
def lpEq : List D → List D
  | [.l xs, _, v, .i _] => [.i 1, v, .i (xs.length : Int)]
  | _ => []
def pr16 (ρ : List D) : Prop := ∃ (l : List Pt) (v : D) (j : Nat), ρ = [.l (l.map encP), .l (l.map encP), v, .i (j : Int)] ∧ j ≤ l.length ∧ l.length ≤ maxLen
def sameP (ds : List D) : Prop := ∃ l : List Pt, ds = [.l (l.map encP), .l (l.map encP)] ∧ l.length ≤ maxLen
def pr11 (ρ : List D) : Prop := ∃ (l : List Int) (v : D) (j : Nat), ρ = [.l (l.map encI), .l (l.map encI), v, .i (j : Int)] ∧ j ≤ l.length ∧ l.length ≤ maxLen
def sameI (ds : List D) : Prop := ∃ l : List Int, ds = [.l (l.map encI), .l (l.map encI)] ∧ l.length ≤ maxLen
def one (_ : List D) : List D := [.b true]

/-! ### loops of the laws -/
def lp6a : List D → List D
  | [.l _, v, .i n, .l _, .l _, .l _, .i _] => [.i 1, v, .i n]
  | _ => []
def pr6a (ρ : List D) : Prop := ∃ (p : List Int) (v : D) (i : Nat), ρ = [.l (p.map encI), v, .i (p.length : Int), .l ((Lrow p).map encI), .l ((Arow p).map encI), .l ((Rrow p).map encI), .i (i : Int)] ∧ Forest p ∧ i ≤ p.length
def lp6b : List D → List D
  | [.l xs, v, .i n, .l _, .l _, .l _, .i i, .i _, .i _] => [.i 1, v, .i (S (dp xs) i), .i n]
  | _ => []
def pr6b (ρ : List D) : Prop := ∃ (p : List Int) (v : D) (i u : Nat), ρ = [.l (p.map encI), v, .i (p.length : Int), .l ((Lrow p).map encI), .l ((Arow p).map encI), .l ((Rrow p).map encI), .i (i : Int), .i (B p (i : Int) u), .i (u : Int)] ∧ Forest p ∧ i < p.length ∧ u ≤ p.length
def Far (l : List Pt) (s : Int) : Prop := (∀ q ∈ l, (-268435456 ≤ q.1 ∧ q.1 ≤ 268435456) ∧ -268435456 ≤ q.2 ∧ q.2 ≤ 268435456) ∧ ∀ v u, u < v → v < l.length → (s ≤ (l.getD u p0).1 - (l.getD v p0).1 ∨ s ≤ (l.getD v p0).1 - (l.getD u p0).1) ∨ (s ≤ (l.getD u p0).2 - (l.getD v p0).2 ∨ s ≤ (l.getD v p0).2 - (l.getD u p0).2)
def lp7a : List D → List D
  | [.i _, v, .l xs, .i _] => [.i 1, v, .i (xs.length : Int)]
  | _ => []
def pr7a (ρ : List D) : Prop := ∃ (s : Int) (v : D) (l : List Pt) (i : Nat), ρ = [.i s, v, .l (l.map encP), .i (i : Int)] ∧ Far l s ∧ i ≤ l.length ∧ l.length ≤ 64
def lp7b : List D → List D
  | [.i _, v, .l _, .i i, .i _] => [.i 1, v, .i i]
  | _ => []
def pr7b (ρ : List D) : Prop := ∃ (s : Int) (v : D) (l : List Pt) (i u : Nat), ρ = [.i s, v, .l (l.map encP), .i (i : Int), .i (u : Int)] ∧ Far l s ∧ i < l.length ∧ l.length ≤ 64 ∧ u ≤ i

def F : FuncId → List D → List D := tabOf [(22, okD), (12200, lp22), (19, okD), (11900, lp19), (12, leavesD), (11200, lp12), (13, leavesD), (11300, lp12), (9, angD), (10900, lp9a), (10901, lp9b), (16023000, partR), (16023001, partB), (10, angD), (11000, lp10), (24, wedgesD), (12401, lp24), (12400, lp24i), (20, ringD), (12000, lp20a), (12001, lp20b), (25, ringD), (12500, lp25a), (12501, lp25b), (26, maxD), (12600, lp26), (14, placeD), (11400, lp14), (15, placeD), (11500, lp15a), (11501, lp15b), (17, stpD), (18, stpD), (27, polD), (28, polD), (21, fn21), (11, one), (11100, lpEq), (16, one), (11600, lpEq), (8, one), (10601, lp6a), (10600, lp6b), (10701, lp7a), (10700, lp7b)]
def R : FuncId → List D → Prop := tabP [(22, lPre), (12200, pr22), (19, lPre), (11900, pr19), (12, lPre), (11200, pr12), (13, lPre), (11300, pr12), (9, lPre), (10900, pr9a), (10901, pr9b), (16023000, partRpre), (16023001, partBpre), (10, lPre), (11000, pr10), (24, fPre), (12401, pr24), (12400, pr24i), (20, fPre), (12000, pr20a), (12001, pr20b), (25, fPre), (12500, pr25a), (12501, pr25b), (26, maxPre), (12600, pr26), (14, plPre), (11400, pr14), (15, plPre), (11500, pr15a), (11501, pr15b), (11, sameI), (11100, pr11), (16, sameP), (11600, pr16), (10601, pr6a), (10600, pr6b), (10701, pr7a), (10700, pr7b)]
theorem F22 : F 22 = okD := rfl
theorem R22 : R 22 = lPre := rfl
theorem F12200 : F 12200 = lp22 := rfl
theorem R12200 : R 12200 = pr22 := rfl
theorem F19 : F 19 = okD := rfl
theorem R19 : R 19 = lPre := rfl
theorem F11900 : F 11900 = lp19 := rfl
theorem R11900 : R 11900 = pr19 := rfl
theorem F12 : F 12 = leavesD := rfl
theorem R12 : R 12 = lPre := rfl
theorem F11200 : F 11200 = lp12 := rfl
theorem R11200 : R 11200 = pr12 := rfl
theorem F13 : F 13 = leavesD := rfl
theorem R13 : R 13 = lPre := rfl
theorem F11300 : F 11300 = lp12 := rfl
theorem R11300 : R 11300 = pr12 := rfl
theorem F9 : F 9 = angD := rfl
theorem R9 : R 9 = lPre := rfl
theorem F10900 : F 10900 = lp9a := rfl
theorem R10900 : R 10900 = pr9a := rfl
theorem F10901 : F 10901 = lp9b := rfl
theorem R10901 : R 10901 = pr9b := rfl
theorem F16023000 : F 16023000 = partR := rfl
theorem R16023000 : R 16023000 = partRpre := rfl
theorem F16023001 : F 16023001 = partB := rfl
theorem R16023001 : R 16023001 = partBpre := rfl
theorem F10 : F 10 = angD := rfl
theorem R10 : R 10 = lPre := rfl
theorem F11000 : F 11000 = lp10 := rfl
theorem R11000 : R 11000 = pr10 := rfl
theorem F24 : F 24 = wedgesD := rfl
theorem R24 : R 24 = fPre := rfl
theorem F12401 : F 12401 = lp24 := rfl
theorem R12401 : R 12401 = pr24 := rfl
theorem F12400 : F 12400 = lp24i := rfl
theorem R12400 : R 12400 = pr24i := rfl
theorem F20 : F 20 = ringD := rfl
theorem R20 : R 20 = fPre := rfl
theorem F12000 : F 12000 = lp20a := rfl
theorem R12000 : R 12000 = pr20a := rfl
theorem F12001 : F 12001 = lp20b := rfl
theorem R12001 : R 12001 = pr20b := rfl
theorem F25 : F 25 = ringD := rfl
theorem R25 : R 25 = fPre := rfl
theorem F12500 : F 12500 = lp25a := rfl
theorem R12500 : R 12500 = pr25a := rfl
theorem F12501 : F 12501 = lp25b := rfl
theorem R12501 : R 12501 = pr25b := rfl
theorem F26 : F 26 = maxD := rfl
theorem R26 : R 26 = maxPre := rfl
theorem F12600 : F 12600 = lp26 := rfl
theorem R12600 : R 12600 = pr26 := rfl
theorem F14 : F 14 = placeD := rfl
theorem R14 : R 14 = plPre := rfl
theorem F11400 : F 11400 = lp14 := rfl
theorem R11400 : R 11400 = pr14 := rfl
theorem F15 : F 15 = placeD := rfl
theorem R15 : R 15 = plPre := rfl
theorem F11500 : F 11500 = lp15a := rfl
theorem R11500 : R 11500 = pr15a := rfl
theorem F11501 : F 11501 = lp15b := rfl
theorem R11501 : R 11501 = pr15b := rfl
theorem F17 : F 17 = stpD := rfl
theorem R17 : R 17 = fun _ => True := rfl
theorem F18 : F 18 = stpD := rfl
theorem R18 : R 18 = fun _ => True := rfl
theorem F27 : F 27 = polD := rfl
theorem R27 : R 27 = fun _ => True := rfl
theorem F28 : F 28 = polD := rfl
theorem R28 : R 28 = fun _ => True := rfl
theorem F21 : F 21 = fn21 := rfl
theorem R21 : R 21 = fun _ => True := rfl
theorem F11 : F 11 = one := rfl
theorem R11 : R 11 = sameI := rfl
theorem F11100 : F 11100 = lpEq := rfl
theorem R11100 : R 11100 = pr11 := rfl
theorem F16 : F 16 = one := rfl
theorem R16 : R 16 = sameP := rfl
theorem F11600 : F 11600 = lpEq := rfl
theorem R11600 : R 11600 = pr16 := rfl
theorem F8 : F 8 = one := rfl
theorem R8 : R 8 = fun _ => True := rfl
theorem F10601 : F 10601 = lp6a := rfl
theorem R10601 : R 10601 = pr6a := rfl
theorem F10600 : F 10600 = lp6b := rfl
theorem R10600 : R 10600 = pr6b := rfl
theorem F10701 : F 10701 = lp7a := rfl
theorem R10701 : R 10701 = pr7a := rfl
theorem F10700 : F 10700 = lp7b := rfl
theorem R10700 : R 10700 = pr7b := rfl
end Go.Proofs.Ytdehhmcfhaeheaa.rv
