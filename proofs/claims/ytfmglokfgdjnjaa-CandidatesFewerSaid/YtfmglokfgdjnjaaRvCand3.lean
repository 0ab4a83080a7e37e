/-
  Candidates: the tables of closed forms; sizes, paths.
-/
import Derived.Test.YtfmglokfgdjnjaaRvCand2
namespace Go.Proofs.Ytfmglokfgdjnjaa.rv
open Go.RV

/-! ### searches -/
def badSs (l : List Int) (j : Nat) : Bool := badS (l.getD j 0)
def hitsD (r : List D) (l : List Bx) (k : Nat) : Bool := ovl (decQ r) (l.getD k q0)
def dynI : List D → List D
  | [_, .i n] => [.b (badS n)]
  | _ => []
def dynIpre (ds : List D) : Prop := ∃ n : Int, ds = [.c 37 [] [], .i n]
def dynP : List D → List D
  | [_, .i x, .i y] => [.b (!pv x y)]
  | _ => []
def dynPpre (ds : List D) : Prop := ∃ x y : Int, ds = [.c 45 [] [], .i x, .i y]
def ctQ : List CT := [.pt [.int .i64, .int .i64, .int .i64, .int .i64]]
def dynQ : List D → List D
  | [.c _ _ [.p r], .i a, .i b, .i c, .i d] => [.b (ovl (decQ r) (a, b, c, d))]
  | _ => []
def dynQpre (ds : List D) : Prop := ∃ b q : Bx, ds = [.c 31 ctQ [.p (encQ b)], .i q.1, .i q.2.1, .i q.2.2.1, .i q.2.2.2]
def lp43 : List D → List D
  | [.l xs, _, v, _, .i i] => ixL (badSs (xs.map decI)) v xs.length i.toNat
  | _ => []
def pr43 (ρ : List D) : Prop := ∃ (v : D) (l : List Int) (j : Nat), ρ = [.l (l.map encI), .c 37 [] [], v, .i (l.length : Int), .i (j : Int)] ∧ j ≤ l.length ∧ l.length ≤ maxLen
def ix43 : List D → List D
  | [.l xs, _] => ixD (badSs (xs.map decI)) xs.length
  | _ => []
def clI (ds : List D) : Prop := ∃ l : List Int, ds = [.l (l.map encI), .c 37 [] []] ∧ l.length ≤ maxLen
def cf36 : List D → List D
  | [.l xs, _] => [.b (anyN (badSs (xs.map decI)) xs.length)]
  | _ => []
def szD : List D → List D
  | [.l xs] => [.b (!anyN (badSs (xs.map decI)) xs.length)]
  | _ => []
def szPre (ds : List D) : Prop := ∃ l : List Int, ds = [.l (l.map encI)] ∧ l.length ≤ maxLen
def lp46 : List D → List D
  | [.l xs, _, v, _, .i i] => ixL (badPt (xs.map decP)) v xs.length i.toNat
  | _ => []
def pr46 (ρ : List D) : Prop := ∃ (v : D) (l : List Pt) (j : Nat), ρ = [.l (l.map encP), .c 45 [] [], v, .i (l.length : Int), .i (j : Int)] ∧ j ≤ l.length ∧ l.length ≤ maxLen
def ix46 : List D → List D
  | [.l xs, _] => ixD (badPt (xs.map decP)) xs.length
  | _ => []
def clP (ds : List D) : Prop := ∃ l : List Pt, ds = [.l (l.map encP), .c 45 [] []] ∧ l.length ≤ maxLen
def cf44 : List D → List D
  | [.l xs, _] => [.b (anyN (badPt (xs.map decP)) xs.length)]
  | _ => []
def lp42 : List D → List D
  | [.l xs, .c _ _ [.p r], v, _, .i i] => ixL (hitsD r (xs.map decQ)) v xs.length i.toNat
  | _ => []
def pr42 (ρ : List D) : Prop := ∃ (v : D) (b : Bx) (l : List Bx) (j : Nat), ρ = [.l (l.map encQ), .c 31 ctQ [.p (encQ b)], v, .i (l.length : Int), .i (j : Int)] ∧ j ≤ l.length ∧ l.length ≤ maxLen
def ix42 : List D → List D
  | [.l xs, .c _ _ [.p r]] => ixD (hitsD r (xs.map decQ)) xs.length
  | _ => []
def clQ (ds : List D) : Prop := ∃ (b : Bx) (l : List Bx), ds = [.l (l.map encQ), .c 31 ctQ [.p (encQ b)]] ∧ l.length ≤ maxLen
def cf30 : List D → List D
  | [.l xs, .c _ _ [.p r]] => [.b (anyN (hitsD r (xs.map decQ)) xs.length)]
  | _ => []

/-! ### paths -/
def pathPre (ds : List D) : Prop := ∃ l : List Pt, ds = [.l (l.map encP)] ∧ l.length ≤ maxLen
def ptsD : List D → List D
  | [.l xs] => [.b (ptsOk (xs.map decP))]
  | _ => []
def lp40 : List D → List D
  | [.l xs, v, .i i] => scanN (dup (xs.map decP)) (fun j => [.i 0, .b false, .i (j : Int)]) (fun j => [.i 1, v, .i (j : Int)]) (xs.length - i.toNat) i.toNat
  | _ => []
def pr40 (ρ : List D) : Prop := ∃ (v : D) (l : List Pt) (j : Nat), ρ = [.l (l.map encP), v, .i (j : Int)] ∧ (1 ≤ j ∧ (j = 1 ∨ j ≤ l.length)) ∧ l.length ≤ maxLen
def disD : List D → List D
  | [.l xs] => [.b (!anyN (dup (xs.map decP)) xs.length)]
  | _ => []
def pathD : List D → List D
  | [.l xs] => [.b (path (xs.map decP))]
  | _ => []
def bndD : List D → List D
  | [.l xs] => encQ (bnd (xs.map decP))
  | _ => []
def lp29 : List D → List D
  | [.l xs, .i n, .i i, .i a, .i b, .i c, .i d] => .i 0 :: .i n :: encQ (growN (xs.map decP) i.toNat (a, b, c, d))
  | _ => []
def pr29 (ρ : List D) : Prop := ∃ (l : List Pt) (j : Nat) (b : Bx), ρ = [.l (l.map encP), .i (l.length : Int), .i (j : Int), .i b.1, .i b.2.1, .i b.2.2.1, .i b.2.2.2] ∧ j ≤ l.length ∧ l.length ≤ maxLen
def lp20 : List D → List D
  | [.l xs, .i i, .i a, .i b, .i c, .i d] => .i 0 :: .i (xs.length : Int) :: encQ (growN (xs.map decP) i.toNat (a, b, c, d))
  | _ => []
def pr20 (ρ : List D) : Prop := ∃ (l : List Pt) (j : Nat) (b : Bx), ρ = [.l (l.map encP), .i (j : Int), .i b.1, .i b.2.1, .i b.2.2.1, .i b.2.2.2] ∧ j ≤ l.length ∧ l.length ≤ maxLen
def badDup (l : List Pt) (j : Nat) : Bool := badPt l j || dup l j
def lp19 : List D → List D
  | [.l xs, v, .i i] => scanN (badDup (xs.map decP)) (fun j => [.i 0, .b false, .i (j : Int)]) (fun j => [.i 1, v, .i (j : Int)]) (xs.length - i.toNat) i.toNat
  | _ => []
def pr19 (ρ : List D) : Prop := ∃ (v : D) (l : List Pt) (j : Nat), ρ = [.l (l.map encP), v, .i (j : Int)] ∧ j ≤ l.length ∧ l.length ≤ maxLen

/-! ### boxes around and along -/
def putD : List D → List D
  | [.l acc, .i a, .i b, .i c, .i d] => [.i 0, .l ((acc.map decQ ++ putf (a, b, c, d)).map encQ)]
  | _ => []
def putPre (ρ : List D) : Prop := ∃ (acc : List Bx) (q : Bx), ρ = [.l (acc.map encQ), .i q.1, .i q.2.1, .i q.2.2.1, .i q.2.2.2] ∧ acc.length < 4398046511104
def lp10 : List D → List D
  | [.i w, .i h, .i g, .i k, .i a, .i b, .i c, .i d, .l acc] => [.i 0, .i 8, .l ((acc.map decQ ++ collN (fun k => putf (place (a, b, c, d) w h g k)) 8 k.toNat).map encQ)]
  | _ => []
def lp11 : List D → List D
  | [.i w, .i h, .i g, .i k, .i a, .i b, .i c, .i d, .l acc] => if (bv a b c d && sz3 w h g) = true then [.i 0, .i 8, .l ((acc.map decQ ++ collN (fun k => putf (place (a, b, c, d) w h g k)) 8 k.toNat).map encQ)] else [.i 0, .i k, .l acc]
  | _ => []
def pr11 (ρ : List D) : Prop := ∃ (w h g : Int) (k : Nat) (b : Bx) (acc : List Bx), ρ = [.i w, .i h, .i g, .i (k : Int), .i b.1, .i b.2.1, .i b.2.2.1, .i b.2.2.2, .l (acc.map encQ)] ∧ k ≤ 8 ∧ acc.length ≤ k
def pr10 (ρ : List D) : Prop := ∃ (w h g : Int) (k : Nat) (b : Bx) (acc : List Bx), ρ = [.i w, .i h, .i g, .i (k : Int), .i b.1, .i b.2.1, .i b.2.2.1, .i b.2.2.2, .l (acc.map encQ)] ∧ vq b = true ∧ sz3 w h g = true ∧ k ≤ 8 ∧ acc.length ≤ k
def aroundD : List D → List D
  | [.i a, .i b, .i c, .i d, .i w, .i h, .i g] => [.l ((around (a, b, c, d) w h g).map encQ)]
  | _ => []
def aroundPre (ds : List D) : Prop := ∃ (b : Bx) (w h g : Int), ds = [.i b.1, .i b.2.1, .i b.2.2.1, .i b.2.2.2, .i w, .i h, .i g]
def lp13 : List D → List D
  | [.l xs, .i w, .i h, .i g, .i i, .l acc] => [.i 0, .i (xs.length : Int), .l ((acc.map decQ ++ collN (fun i => pair (segN (xs.map decP) i) w h g) xs.length i.toNat).map encQ)]
  | _ => []
def pr13 (ρ : List D) : Prop := ∃ (l : List Pt) (w h g : Int) (i : Nat) (acc : List Bx), ρ = [.l (l.map encP), .i w, .i h, .i g, .i (i : Int), .l (acc.map encQ)] ∧ path l = true ∧ sz3 w h g = true ∧ (1 ≤ i ∧ i ≤ l.length) ∧ acc.length ≤ 2 * i
def two14 (b : Bx) (w h g k : Int) : List Bx := if k < 4 then putf (place b w h g k) ++ putf (place b w h g (k + 4)) else if k < 8 then putf (place b w h g k) else []
def lp14i : List D → List D
  | [.i w, .i h, .i g, .i k, .l acc, .i a, .i b, .i c, .i d] => [.i 0, .i (if k < 4 then k + 8 else if k < 8 then k + 4 else k), .l ((acc.map decQ ++ two14 (a, b, c, d) w h g k).map encQ)]
  | _ => []
def pr14i (ρ : List D) : Prop := ∃ (w h g k : Int) (b : Bx) (acc : List Bx), ρ = [.i w, .i h, .i g, .i k, .l (acc.map encQ), .i b.1, .i b.2.1, .i b.2.2.1, .i b.2.2.2] ∧ vq b = true ∧ sz3 w h g = true ∧ (0 ≤ k ∧ k ≤ 11) ∧ (acc.length : Int) ≤ 4096 + k
def alongD : List D → List D
  | [.l xs, .i w, .i h, .i g] => [.l ((along (xs.map decP) w h g).map encQ)]
  | _ => []
def alongPre (ds : List D) : Prop := ∃ (l : List Pt) (w h g : Int), ds = [.l (l.map encP), .i w, .i h, .i g] ∧ l.length ≤ maxLen

/-! ### free boxes -/
def freeF (l obs : List Bx) (i : Nat) : List Int := if freeAt l obs i = true then [(i : Int)] else []
def lp16 : List D → List D
  | [.l obs, .l xs, .i n, .i i, .l acc] => [.i 0, .i n, .l ((acc.map decI ++ collN (freeF (xs.map decQ) (obs.map decQ)) xs.length i.toNat).map encI)]
  | _ => []
def pr16 (ρ : List D) : Prop := ∃ (l obs : List Bx) (i : Nat) (acc : List Int), ρ = [.l (obs.map encQ), .l (l.map encQ), .i (l.length : Int), .i (i : Int), .l (acc.map encI)] ∧ i ≤ l.length ∧ l.length ≤ 100 ∧ obs.length ≤ 200 ∧ acc.length ≤ i
def lp17 : List D → List D
  | [.l xs, .l obs, .i i, .l acc] => [.i 0, .i (xs.length : Int), .l ((acc.map decI ++ collN (freeF (xs.map decQ) (obs.map decQ)) xs.length i.toNat).map encI)]
  | _ => []
def pr17 (ρ : List D) : Prop := ∃ (l obs : List Bx) (i : Nat) (acc : List Int), ρ = [.l (l.map encQ), .l (obs.map encQ), .i (i : Int), .l (acc.map encI)] ∧ i ≤ l.length ∧ l.length ≤ 100 ∧ obs.length ≤ 200 ∧ acc.length ≤ i
def clear (l obs : List Bx) (i k : Nat) (f : Bool) : Bool := foldN (fun k f => f && !hitAt l obs i k) obs.length k f
def lp17i : List D → List D
  | [.l xs, .l obs, .i i, .b f, .i k] => [.i 0, .b (clear (xs.map decQ) (obs.map decQ) i.toNat k.toNat f), .i (obs.length : Int)]
  | _ => []
def pr17i (ρ : List D) : Prop := ∃ (l obs : List Bx) (i k : Nat) (f : Bool), ρ = [.l (l.map encQ), .l (obs.map encQ), .i (i : Int), .b f, .i (k : Int)] ∧ i < l.length ∧ k ≤ obs.length ∧ l.length ≤ 100 ∧ obs.length ≤ 200
def freeD : List D → List D
  | [.l xs, .l obs] => [.l ((free (xs.map decQ) (obs.map decQ)).map encI)]
  | _ => []
def freePre (ds : List D) : Prop := ∃ (l obs : List Bx), ds = [.l (l.map encQ), .l (obs.map encQ)] ∧ l.length ≤ 100 ∧ obs.length ≤ 200

/-! ### equal lists -/
def lp9 : List D → List D
  | [.l xs, _, v, .i _] => [.i 1, v, .i (xs.length : Int)]
  | _ => []
def pr9 (ρ : List D) : Prop := ∃ (l : List Bx) (v : D) (j : Nat), ρ = [.l (l.map encQ), .l (l.map encQ), v, .i (j : Int)] ∧ j ≤ l.length ∧ l.length ≤ maxLen
def sameQ (ds : List D) : Prop := ∃ l : List Bx, ds = [.l (l.map encQ), .l (l.map encQ)] ∧ l.length ≤ maxLen
def pr15 (ρ : List D) : Prop := ∃ (l : List Int) (v : D) (j : Nat), ρ = [.l (l.map encI), .l (l.map encI), v, .i (j : Int)] ∧ j ≤ l.length ∧ l.length ≤ maxLen
def sameI (ds : List D) : Prop := ∃ l : List Int, ds = [.l (l.map encI), .l (l.map encI)] ∧ l.length ≤ maxLen
def one (_ : List D) : List D := [.b true]

/-! ### loops of the laws -/
def lp6 : List D → List D
  | [v, .l xs, .i _, .i _, .i _, .i _, .i _, .i _, .i _, .i _] => [.i 1, v, .i (xs.length : Int)]
  | _ => []
def pr6 (ρ : List D) : Prop := ∃ (v : D) (b : Bx) (w h g : Int) (k : Nat), ρ = [v, .l ((around b w h g).map encQ), .i (k : Int), .i b.1, .i b.2.1, .i b.2.2.1, .i b.2.2.2, .i w, .i h, .i g] ∧ k ≤ (around b w h g).length
def nearAt (l : List Pt) (q : Bx) (g : Int) (k : Nat) : Bool := ((q.1 - (segN l k).2.2.1 == g || (segN l k).1 - q.2.2.1 == g) || q.2.1 - (segN l k).2.2.2 == g) || (segN l k).2.1 - q.2.2.2 == g
def nearN (l : List Pt) (q : Bx) (g : Int) (k : Nat) (f : Bool) : Bool := foldN (fun k f => f || nearAt l q g k) l.length k f
def lp7i : List D → List D
  | [.l xs, .l qs, .i i, .b f, .i k, .i _, .i _, .i g] => [.i 0, .b (nearN (xs.map decP) ((qs.map decQ).getD i.toNat q0) g k.toNat f), .i (xs.length : Int)]
  | _ => []
def pr7i (ρ : List D) : Prop := ∃ (l : List Pt) (w h g : Int) (i k : Nat) (f : Bool), ρ = [.l (l.map encP), .l ((along l w h g).map encQ), .i (i : Int), .b f, .i (k : Int), .i w, .i h, .i g] ∧ path l = true ∧ sz3 w h g = true ∧ i < (along l w h g).length ∧ (1 ≤ k ∧ k ≤ l.length)
def lp7 : List D → List D
  | [.l _, v, .l qs, .i _, .i _, .i _, .i _] => [.i 1, v, .i (qs.length : Int)]
  | _ => []
def pr7 (ρ : List D) : Prop := ∃ (l : List Pt) (v : D) (w h g : Int) (i : Nat), ρ = [.l (l.map encP), v, .l ((along l w h g).map encQ), .i (i : Int), .i w, .i h, .i g] ∧ i ≤ (along l w h g).length
def find (b : List Int) (x : Int) (k : Nat) : Nat := k + ((b.drop k).takeWhile (fun y => !(y == x))).length
def ends (b : List Int) : List Int → Nat → Nat
  | [], k => k
  | x :: xs, k => ends b xs (find b x k)
def lp8i : List D → List D
  | [.l bs, .l cs, .i k, .i i] => [.i 0, .i (find (bs.map decI) ((cs.map decI).getD i.toNat 0) k.toNat : Int)]
  | _ => []
def pr8i (ρ : List D) : Prop := ∃ (b c : List Int) (k i : Nat), ρ = [.l (b.map encI), .l (c.map encI), .i (k : Int), .i (i : Int)] ∧ k ≤ b.length ∧ i < c.length ∧ b.length ≤ 100 ∧ c.length ≤ 100
def lp8 : List D → List D
  | [v, .l bs, .l cs, .i k, .i i] => [.i 1, v, .i (ends (bs.map decI) ((cs.map decI).drop i.toNat) k.toNat : Int), .i (cs.length : Int)]
  | _ => []
def pr8 (ρ : List D) : Prop := ∃ (v : D) (b c : List Int) (k i : Nat), ρ = [v, .l (b.map encI), .l (c.map encI), .i (k : Int), .i (i : Int)] ∧ k ≤ b.length ∧ i ≤ c.length ∧ b.length ≤ 100 ∧ c.length ≤ 100 ∧ (c.drop i).Sublist (b.drop k)
def validF (l : List Bx) (i : Nat) : List Int := if vq (l.getD i q0) = true then [(i : Int)] else []
def lp8v : List D → List D
  | [.l xs, .i i, .l acc] => [.i 0, .i (xs.length : Int), .l ((acc.map decI ++ collN (validF (xs.map decQ)) xs.length i.toNat).map encI)]
  | _ => []
def pr8v (ρ : List D) : Prop := ∃ (l : List Bx) (i : Nat) (acc : List Int), ρ = [.l (l.map encQ), .i (i : Int), .l (acc.map encI)] ∧ i ≤ l.length ∧ l.length ≤ 100 ∧ acc.length ≤ i

def F : FuncId → List D → List D := tabOf [(9, one), (10900, lp9), (15, one), (11500, lp9), (12, one), (10, aroundD), (11, aroundD), (17023000, putD), (20028000, putD), (11000, lp10), (11100, lp11), (13, alongD), (14, alongD), (11300, lp13), (11401, lp13), (11400, lp14i), (16, freeD), (17, freeD), (11600, lp16), (11701, lp17), (11700, lp17i), (18, fn18), (21, fn21), (24, fn24), (25, fn25), (26, fn26), (31, fn31), (32, fn32), (33, fn33), (34, fn34), (35, fn35), (37, fn37), (38, fn38), (39, fn39), (45, fn45), (22, szD), (36, cf36), (43, ix43), (14300, lp43), (20004, dynI), (44, cf44), (46, ix46), (14600, lp46), (20046, dynP), (30, cf30), (42, ix42), (14200, lp42), (20024, dynQ), (41, ptsD), (40, disD), (14000, lp40), (27, pathD), (19, pathD), (11900, lp19), (29, bndD), (12900, lp29), (20, bndD), (12000, lp20), (10600, lp6), (10701, lp7), (10700, lp7i), (10801, lp8), (10800, lp8i), (10802, lp8v)]
def R : FuncId → List D → Prop := tabP [(9, sameQ), (10900, pr9), (15, sameI), (11500, pr15), (10, aroundPre), (11, aroundPre), (17023000, putPre), (20028000, putPre), (11000, pr10), (11100, pr11), (13, alongPre), (14, alongPre), (11300, pr13), (11401, pr13), (11400, pr14i), (16, freePre), (17, freePre), (11600, pr16), (11701, pr17), (11700, pr17i), (22, szPre), (36, clI), (43, clI), (14300, pr43), (20004, dynIpre), (44, clP), (46, clP), (14600, pr46), (20046, dynPpre), (30, clQ), (42, clQ), (14200, pr42), (20024, dynQpre), (41, pathPre), (40, pathPre), (14000, pr40), (27, pathPre), (19, pathPre), (11900, pr19), (29, pathPre), (12900, pr29), (20, pathPre), (12000, pr20), (10600, pr6), (10701, pr7), (10700, pr7i), (10801, pr8), (10800, pr8i), (10802, pr8v)]
theorem F9 : F 9 = one := rfl
theorem R9 : R 9 = sameQ := rfl
theorem F10900 : F 10900 = lp9 := rfl
theorem R10900 : R 10900 = pr9 := rfl
theorem F15 : F 15 = one := rfl
theorem R15 : R 15 = sameI := rfl
theorem F11500 : F 11500 = lp9 := rfl
theorem R11500 : R 11500 = pr15 := rfl
theorem F12 : F 12 = one := rfl
theorem R12 : R 12 = fun _ => True := rfl
theorem F10 : F 10 = aroundD := rfl
theorem R10 : R 10 = aroundPre := rfl
theorem F11 : F 11 = aroundD := rfl
theorem R11 : R 11 = aroundPre := rfl
theorem F17023000 : F 17023000 = putD := rfl
theorem R17023000 : R 17023000 = putPre := rfl
theorem F20028000 : F 20028000 = putD := rfl
theorem R20028000 : R 20028000 = putPre := rfl
theorem F11000 : F 11000 = lp10 := rfl
theorem R11000 : R 11000 = pr10 := rfl
theorem F11100 : F 11100 = lp11 := rfl
theorem R11100 : R 11100 = pr11 := rfl
theorem F13 : F 13 = alongD := rfl
theorem R13 : R 13 = alongPre := rfl
theorem F14 : F 14 = alongD := rfl
theorem R14 : R 14 = alongPre := rfl
theorem F11300 : F 11300 = lp13 := rfl
theorem R11300 : R 11300 = pr13 := rfl
theorem F11401 : F 11401 = lp13 := rfl
theorem R11401 : R 11401 = pr13 := rfl
theorem F11400 : F 11400 = lp14i := rfl
theorem R11400 : R 11400 = pr14i := rfl
theorem F16 : F 16 = freeD := rfl
theorem R16 : R 16 = freePre := rfl
theorem F17 : F 17 = freeD := rfl
theorem R17 : R 17 = freePre := rfl
theorem F11600 : F 11600 = lp16 := rfl
theorem R11600 : R 11600 = pr16 := rfl
theorem F11701 : F 11701 = lp17 := rfl
theorem R11701 : R 11701 = pr17 := rfl
theorem F11700 : F 11700 = lp17i := rfl
theorem R11700 : R 11700 = pr17i := rfl
theorem F18 : F 18 = fn18 := rfl
theorem R18 : R 18 = fun _ => True := rfl
theorem F21 : F 21 = fn21 := rfl
theorem R21 : R 21 = fun _ => True := rfl
theorem F24 : F 24 = fn24 := rfl
theorem R24 : R 24 = fun _ => True := rfl
theorem F25 : F 25 = fn25 := rfl
theorem R25 : R 25 = fun _ => True := rfl
theorem F26 : F 26 = fn26 := rfl
theorem R26 : R 26 = fun _ => True := rfl
theorem F31 : F 31 = fn31 := rfl
theorem R31 : R 31 = fun _ => True := rfl
theorem F32 : F 32 = fn32 := rfl
theorem R32 : R 32 = fun _ => True := rfl
theorem F33 : F 33 = fn33 := rfl
theorem R33 : R 33 = fun _ => True := rfl
theorem F34 : F 34 = fn34 := rfl
theorem R34 : R 34 = fun _ => True := rfl
theorem F35 : F 35 = fn35 := rfl
theorem R35 : R 35 = fun _ => True := rfl
theorem F37 : F 37 = fn37 := rfl
theorem R37 : R 37 = fun _ => True := rfl
theorem F38 : F 38 = fn38 := rfl
theorem R38 : R 38 = fun _ => True := rfl
theorem F39 : F 39 = fn39 := rfl
theorem R39 : R 39 = fun _ => True := rfl
theorem F45 : F 45 = fn45 := rfl
theorem R45 : R 45 = fun _ => True := rfl
theorem F22 : F 22 = szD := rfl
theorem R22 : R 22 = szPre := rfl
theorem F36 : F 36 = cf36 := rfl
theorem R36 : R 36 = clI := rfl
theorem F43 : F 43 = ix43 := rfl
theorem R43 : R 43 = clI := rfl
theorem F14300 : F 14300 = lp43 := rfl
theorem R14300 : R 14300 = pr43 := rfl
theorem F20004 : F 20004 = dynI := rfl
theorem R20004 : R 20004 = dynIpre := rfl
theorem F44 : F 44 = cf44 := rfl
theorem R44 : R 44 = clP := rfl
theorem F46 : F 46 = ix46 := rfl
theorem R46 : R 46 = clP := rfl
theorem F14600 : F 14600 = lp46 := rfl
theorem R14600 : R 14600 = pr46 := rfl
theorem F20046 : F 20046 = dynP := rfl
theorem R20046 : R 20046 = dynPpre := rfl
theorem F30 : F 30 = cf30 := rfl
theorem R30 : R 30 = clQ := rfl
theorem F42 : F 42 = ix42 := rfl
theorem R42 : R 42 = clQ := rfl
theorem F14200 : F 14200 = lp42 := rfl
theorem R14200 : R 14200 = pr42 := rfl
theorem F20024 : F 20024 = dynQ := rfl
theorem R20024 : R 20024 = dynQpre := rfl
theorem F41 : F 41 = ptsD := rfl
theorem R41 : R 41 = pathPre := rfl
theorem F40 : F 40 = disD := rfl
theorem R40 : R 40 = pathPre := rfl
theorem F14000 : F 14000 = lp40 := rfl
theorem R14000 : R 14000 = pr40 := rfl
theorem F27 : F 27 = pathD := rfl
theorem R27 : R 27 = pathPre := rfl
theorem F19 : F 19 = pathD := rfl
theorem R19 : R 19 = pathPre := rfl
theorem F11900 : F 11900 = lp19 := rfl
theorem R11900 : R 11900 = pr19 := rfl
theorem F29 : F 29 = bndD := rfl
theorem R29 : R 29 = pathPre := rfl
theorem F12900 : F 12900 = lp29 := rfl
theorem R12900 : R 12900 = pr29 := rfl
theorem F20 : F 20 = bndD := rfl
theorem R20 : R 20 = pathPre := rfl
theorem F12000 : F 12000 = lp20 := rfl
theorem R12000 : R 12000 = pr20 := rfl
theorem F10600 : F 10600 = lp6 := rfl
theorem R10600 : R 10600 = pr6 := rfl
theorem F10701 : F 10701 = lp7 := rfl
theorem R10701 : R 10701 = pr7 := rfl
theorem F10700 : F 10700 = lp7i := rfl
theorem R10700 : R 10700 = pr7i := rfl
theorem F10801 : F 10801 = lp8 := rfl
theorem R10801 : R 10801 = pr8 := rfl
theorem F10800 : F 10800 = lp8i := rfl
theorem R10800 : R 10800 = pr8i := rfl
theorem F10802 : F 10802 = lp8v := rfl
theorem R10802 : R 10802 = pr8v := rfl
end Go.Proofs.Ytfmglokfgdjnjaa.rv
