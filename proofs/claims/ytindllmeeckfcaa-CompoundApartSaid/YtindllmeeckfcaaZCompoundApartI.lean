/-
  Nested clusters: the closed forms of the loops and functions that place and check.; Nested clusters: the closed forms of the laws' loops.; Packing: boxes on shelves have their sizes, begin at the origin, and are apart by the gap; unions: plain facts.; Nested clusters: what the arrangement of all clusters is: plain facts.
-/
import Derived.Test.YtindllmeeckfcaaZCompoundApartH
namespace Go.RV
open Go.RowKit
def dyBx (ds : List D) : List D := match ds.getD 0 default with
  | .c _ _ [.p q] => [.b (ovQ (rQ ds 1) (rQ q 0))]
  | _ => [.b (!bxQ (rQ ds 1))]
def dpBx (f1 f2 f3 f4 : FuncId) (ds : List D) : Prop := ∃ (f : FuncId) (q : Bx), (ds = [.c f [] [], .i q.1, .i q.2.1, .i q.2.2.1, .i q.2.2.2] ∧ (f = f1 ∨ f = f2)) ∨ ∃ r : Bx, ds = [.c f [.pt [.int .i64, .int .i64, .int .i64, .int .i64]] [.p (encQ r)], .i q.1, .i q.2.1, .i q.2.2.1, .i q.2.2.2] ∧ (f = f3 ∨ f = f4)
def sm (n : Int) : Prop := -1099511627776 ≤ n ∧ n ≤ 1099511627776
def smQ (q : Bx) : Prop := (-1073741824 ≤ q.1 ∧ q.1 ≤ 1073741824) ∧ (-1073741824 ≤ q.2.1 ∧ q.2.1 ≤ 1073741824) ∧ (-1073741824 ≤ q.2.2.1 ∧ q.2.2.1 ≤ 1073741824) ∧ -1073741824 ≤ q.2.2.2 ∧ q.2.2.2 ≤ 1073741824
theorem smQ_of {q : Bx} (h : bxQ q = true) : smQ q := by
  simp only [bxQ, bxB_iff] at h
  unfold smQ; omega
def okTs (n : Nat) (l : List Tp) : Prop := ∀ t ∈ l, smQ t.2 ∧ -1 ≤ t.1 ∧ t.1 < n
def lpPn : List D → List D
  | [.l xs, .i _, .i i, .l bs, .l ms, .i a, .i b, .i _, .i _, .i c, .i d, .i _, .i _] => [.i 0, .i (xs.length : Int), .l ((putN (bs.map decQ) ((xs.map decN).drop i.toNat) (a - c) (b - d) (ms.map decQ)).map encQ)]
  | _ => []
def prPn (ρ : List D) : Prop := ∃ (l : List Nat) (j : Nat) (B M : List Bx) (q r : Bx), ρ = [.l (l.map encN), .i (l.length : Int), .i (j : Int), .l (B.map encQ), .l (M.map encQ), .i q.1, .i q.2.1, .i q.2.2.1, .i q.2.2.2, .i r.1, .i r.2.1, .i r.2.2.1, .i r.2.2.2] ∧ j ≤ l.length ∧ l.length ≤ 64 ∧ (∀ v ∈ l, v < B.length) ∧ M.length = B.length ∧ (∀ b ∈ B, smQ b) ∧ ((-1098437885952 ≤ q.1 ∧ q.1 ≤ 1098437885952) ∧ -1098437885952 ≤ q.2.1 ∧ q.2.1 ≤ 1098437885952) ∧ smQ r
def lpPt : List D → List D
  | [.i c, .i x, .i y, .l ts, .i _, .i i, .l bs, p, .l ms, .l ks] => let r := putTs (bs.map decQ) (ownL (cL p.ptd 2) c) x y ((ts.map decT).drop i.toNat) (ms.map decQ, ks.map decQ); [.i 0, .i (ts.length : Int), .l (r.1.map encQ), .l (r.2.map encQ)]
  | _ => []
def Pn.small (p : Pn) : Prop := p.fit ∧ ∀ b ∈ p.B, smQ b
def prPt (ρ : List D) : Prop := ∃ (c x y : Int) (l : List Tp) (j : Nat) (p : Pn) (M K : List Bx), ρ = [.i c, .i x, .i y, .l (l.map encT), .i (l.length : Int), .i (j : Int), .l (p.B.map encQ), p.d, .l (M.map encQ), .l (K.map encQ)] ∧ j ≤ l.length ∧ l.length ≤ 64 ∧ p.small ∧ (-1073741824000 ≤ x ∧ x ≤ 1073741824000) ∧ (-1073741824000 ≤ y ∧ y ≤ 1073741824000) ∧ okTs p.g.C.length l ∧ M.length = p.g.N.length ∧ K.length = p.g.C.length
def pcPu : List D → List D
  | [.l bs, p, .l ms, .l ks, .i c, .l ts, .i x, .i y] => let r := putTs (bs.map decQ) (ownL (cL p.ptd 2) c) x y (ts.map decT) (ms.map decQ, ks.map decQ); [.i 0, .l (r.1.map encQ), .l (r.2.map encQ)]
  | _ => []
def prPu (ρ : List D) : Prop := ∃ (c x y : Int) (l : List Tp) (p : Pn) (M K : List Bx), ρ = [.l (p.B.map encQ), p.d, .l (M.map encQ), .l (K.map encQ), .i c, .l (l.map encT), .i x, .i y] ∧ l.length ≤ 64 ∧ p.small ∧ (-1073741824000 ≤ x ∧ x ≤ 1073741824000) ∧ (-1073741824000 ≤ y ∧ y ≤ 1073741824000) ∧ okTs p.g.C.length l ∧ M.length = p.g.N.length ∧ K.length = p.g.C.length
def lpP0 : List D → List D
  | [.i n, .i c, .i _, .i _, .i _, .i _, .i _, .l _, p, .l ms, .l ks] => let r := putF (arP (pnOf p)) (pnOf p).T c.toNat (ms.map decQ, ks.map decQ); [.i 0, .i n, .l (r.1.map encQ), .l (r.2.map encQ)]
  | _ => []
def near (n : Int) (K : List Bx) : Prop := ∀ q ∈ K, (-n ≤ q.1 ∧ q.1 ≤ n) ∧ -n ≤ q.2.1 ∧ q.2.1 ≤ n
def Pn.good (p : Pn) : Prop := p.small ∧ p.o.ok = true ∧ p.T.length = p.g.C.length + 1 ∧ ∀ l ∈ p.T, okTs p.g.C.length l ∧ l.length ≤ 64
def prP0 (ρ : List D) : Prop := ∃ (p : Pn) (j : Nat) (M K : List Bx), ρ = [.i (p.g.C.length : Int), .i (j : Int), .i p.o.md, .i p.o.ns, .i p.o.rs, .i p.o.m, .i p.o.rd, .l (p.B.map encQ), p.d, .l (M.map encQ), .l (K.map encQ)] ∧ j ≤ p.g.C.length ∧ p.good ∧ M.length = p.g.N.length ∧ K.length = p.g.C.length ∧ near ((j + 1 : Nat) * 2147483648) K
def placeD (ds : List D) : List D := let r := placeR (gOf ds) (oOf ds 5) ((cL ds 10).map decQ); [.l (r.1.1.map encQ), .l (r.1.2.map encQ), .i r.2]
def lpQn : List D → List D
  | [.l bs, .i x, .i y, .l ls, .l xs, .i i, .l ms, .i a, .i b, .i _, .i _] => [.i 0, .i (xs.length : Int), .l ((putN (bs.map decQ) ((xs.map decN).drop i.toNat) (x + cI (el ls 0) 0 - a) (y + cI (el ls 0) 1 - b) (ms.map decQ)).map encQ)]
  | _ => []
def prQn (ρ : List D) : Prop := ∃ (B : List Bx) (x y : Int) (L : List Bx) (l : List Nat) (j : Nat) (M : List Bx) (r : Bx), ρ = [.l (B.map encQ), .i x, .i y, .l (L.map encQ), .l (l.map encN), .i (j : Int), .l (M.map encQ), .i r.1, .i r.2.1, .i r.2.2.1, .i r.2.2.2] ∧ j ≤ l.length ∧ l.length ≤ 64 ∧ (∀ v ∈ l, v < B.length) ∧ M.length = B.length ∧ (∀ b ∈ B, smQ b) ∧ (-1073741824000 ≤ x ∧ x ≤ 1073741824000) ∧ (-1073741824000 ≤ y ∧ y ≤ 1073741824000) ∧ smQ r ∧ 0 < L.length ∧ ∀ q ∈ L, smQ q
def putK (x y : Int) (l : List (Nat × Bx)) (K : List Bx) : List Bx := l.foldl (fun K t => K.set t.1 (shQ t.2 x y)) K
def lpQk : List D → List D
  | [.i x, .i y, .l ls, .i a, .l xs, .i i, .l ks] => [.i 0, .i (xs.length : Int), .l ((putK x y (((xs.map decN).zip ((ls.map decQ).drop a.toNat)).drop i.toNat) (ks.map decQ)).map encQ)]
  | _ => []
def prQk (ρ : List D) : Prop := ∃ (x y : Int) (L : List Bx) (a : Nat) (l : List Nat) (j : Nat) (K : List Bx), ρ = [.i x, .i y, .l (L.map encQ), .i (a : Int), .l (l.map encN), .i (j : Int), .l (K.map encQ)] ∧ j ≤ l.length ∧ a + l.length = L.length ∧ L.length ≤ 64 ∧ (∀ v ∈ l, v < K.length) ∧ (-1073741824000 ≤ x ∧ x ≤ 1073741824000) ∧ (-1073741824000 ≤ y ∧ y ≤ 1073741824000) ∧ ∀ q ∈ L, smQ q
def putD (a : Ar) (S : List Pt) (s : Pl) (c : Nat) : Pl := putTs a.B (ownL a.N c) ((s.2.getD c z4).1 + a.m) ((s.2.getD c z4).2.1 + a.m) (a.t S c) s
def putE (a : Ar) (S : List Pt) (k : Nat) (s : Pl) : Pl := foldN (fun c s => putD a S s c) a.C.length k s
def putG (a : Ar) (S : List Pt) (k : Nat) (s : Pl) : Pl := match k with
  | 0 => putE a S 0 (putTs a.B (ownL a.N (-1)) 0 0 (a.t S (-1)) s)
  | k + 1 => putE a S k s
def lpQ0 : List D → List D
  | [.l bs, .l ss, .i c, _, _, .l N, _, .l C, .i _, .i ns, .i _, .i m, .i _, .l ms, .l ks] => let r := putG ⟨N, C, bs.map decQ, ns, m⟩ (ss.map decZ) (c + 1).toNat (ms.map decQ, ks.map decQ); [.i 0, .i (C.length : Int), .l (r.1.map encQ), .l (r.2.map encQ)]
  | _ => []
def prQ0 (ρ : List D) : Prop := ∃ (g : Gd) (o : Od) (B : List Bx) (S : List Pt) (k : Nat) (M K : List Bx), ρ = [.l (B.map encQ), .l (S.map encZ), .i ((k : Int) - 1), .s g.nm, .b g.dr, .l g.N, .l g.E, .l g.C, .i o.md, .i o.ns, .i o.rs, .i o.m, .i o.rd, .l (M.map encQ), .l (K.map encQ)] ∧ k ≤ g.C.length + 1 ∧ (g.N.length ≤ 64 ∧ g.C.length ≤ 16 ∧ B.length = g.N.length ∧ S.length = g.C.length) ∧ (∀ b ∈ B, smQ b) ∧ o.ok = true ∧ (∀ c : Int, -1 ≤ c → c < g.C.length → (arOf g o B).e S c = 0) ∧ M.length = g.N.length ∧ K.length = g.C.length ∧ near ((k : Nat) * 2147483648) K
def lpQv : List D → List D
  | [a, b, c, .i i, .l ms] => scanN (fun v => !bxQ ((ms.map decQ).getD v z4)) (fun j => [.i 0, .l [], .l [], .i 2, .i (j : Int)]) (fun j => [.i 1, a, b, c, .i (j : Int)]) (ms.length - i.toNat) i.toNat
  | _ => []
def prQv (ρ : List D) : Prop := ∃ (a b c : D) (M : List Bx) (j : Nat), ρ = [a, b, c, .i (j : Int), .l (M.map encQ)] ∧ j ≤ M.length ∧ M.length ≤ maxLen
def scB (p : Nat → Bool) (r : D) (v : D) (n i : Nat) : List D := scanN p (fun j => [.i 0, r, .i (j : Int)]) (fun j => [.i 1, v, .i (j : Int)]) (n - i) i
def lpSs : List D → List D
  | [v, .l ms, .i _, .i i, _, _, .l N, _, _] => scB (badS N (ms.map decQ)) (.i 13) v ms.length i.toNat
  | _ => []
def prSs (ρ : List D) : Prop := ∃ (v : D) (M : List Bx) (g : Gd) (j : Nat), ρ = [v, .l (M.map encQ), .i (M.length : Int), .i (j : Int), .s g.nm, .b g.dr, .l g.N, .l g.E, .l g.C] ∧ j ≤ M.length ∧ g.N.length = M.length ∧ M.length ≤ 64 ∧ ∀ q ∈ M, smQ q
def lpI0 : List D → List D
  | [.l ms, v, .l N, .i _, .i i, .i m, .l ks] => scB (outN N (ms.map decQ) (ks.map decQ) m) (.b false) v N.length i.toNat
  | _ => []
def numN (N : List (List D)) (n : Nat) : Prop := ∀ v, v < N.length → -1 ≤ nC N v ∧ nC N v < n
def numC (C : List (List D)) : Prop := ∀ v, v < C.length → -1 ≤ cP C v ∧ cP C v < C.length
def prI0 (ρ : List D) : Prop := ∃ (v : D) (M K : List Bx) (N : List (List D)) (m : Int) (j : Nat), ρ = [.l (M.map encQ), v, .l N, .i (N.length : Int), .i (j : Int), .i m, .l (K.map encQ)] ∧ j ≤ N.length ∧ N.length ≤ 64 ∧ M.length = N.length ∧ numN N K.length ∧ 0 ≤ m ∧ m ≤ 1048576
def lpI1 : List D → List D
  | [v, .l C, .i _, .i i, .i m, .l ks] => scB (outC C (ks.map decQ) m) (.b false) v C.length i.toNat
  | _ => []
def prI1 (ρ : List D) : Prop := ∃ (v : D) (K : List Bx) (C : List (List D)) (m : Int) (j : Nat), ρ = [v, .l C, .i (C.length : Int), .i (j : Int), .i m, .l (K.map encQ)] ∧ j ≤ C.length ∧ C.length ≤ 16 ∧ K.length = C.length ∧ numC C ∧ 0 ≤ m ∧ m ≤ 1048576
def okInD (ds : List D) : List D := [.b (okIn (rQ ds 0) ((cL (ds.getD 5 default).ptd 0).map decQ) (cI ds 4) (cI (ds.getD 6 default).ptd 0))]
def okInP (ds : List D) : Prop := ∃ (q : Bx) (c : D) (K : List Bx) (m : Int), ds = [.i q.1, .i q.2.1, .i q.2.2.1, .i q.2.2.2, c, .p [.l (K.map encQ)], .p [.i m]] ∧ c.int < K.length ∧ 0 ≤ m ∧ m ≤ 1048576
def withD (ds : List D) : List D := [.b (withinB (gOf ds) (cI ds 5) ((cL ds 6).map decQ) ((cL ds 7).map decQ))]
def withP (ds : List D) : Prop := ∃ (g : Gd) (m : Int) (M K : List Bx), ds = [.s g.nm, .b g.dr, .l g.N, .l g.E, .l g.C, .i m, .l (M.map encQ), .l (K.map encQ)] ∧ g.N.length ≤ 64 ∧ g.C.length ≤ 16 ∧ M.length = g.N.length ∧ K.length = g.C.length ∧ numN g.N K.length ∧ numC g.C ∧ 0 ≤ m ∧ m ≤ 1048576
def lpV3 : List D → List D
  | [.l ms, v, .l _, .i _, .i i] => scB (ovN (ms.map decQ)) (.b false) v ms.length i.toNat
  | _ => []
def prV3 (ρ : List D) : Prop := ∃ (v : D) (M : List Bx) (j : Nat), ρ = [.l (M.map encQ), v, .l (M.map encQ), .i (M.length : Int), .i (j : Int)] ∧ j ≤ M.length ∧ M.length ≤ maxLen
def lpMx : List D → List D
  | [.l ms, .l ks, v, .l _, .i _, .i i, _, _, .l N, _, .l C] => scB (mixAny N C (ms.map decQ) (ks.map decQ)) (.b false) v ks.length i.toNat
  | _ => []
def prMx (ρ : List D) : Prop := ∃ (v : D) (M K : List Bx) (g : Gd) (j : Nat), ρ = [.l (M.map encQ), .l (K.map encQ), v, .l (K.map encQ), .i (K.length : Int), .i (j : Int), .s g.nm, .b g.dr, .l g.N, .l g.E, .l g.C] ∧ j ≤ K.length ∧ validE g = 0 ∧ M.length = g.N.length ∧ K.length = g.C.length
def lpMn : List D → List D
  | [v, .l xs, .l ms, .i _, .i i, .i a, .i b, .i c, .i d] => scB (fun w => !(xs.map decN).contains w && ovQ ((ms.map decQ).getD w z4) (a, b, c, d)) (.b false) v ms.length i.toNat
  | _ => []
def prMn (ρ : List D) : Prop := ∃ (v : D) (l : List Nat) (M : List Bx) (q : Bx) (j : Nat), ρ = [v, .l (l.map encN), .l (M.map encQ), .i (M.length : Int), .i (j : Int), .i q.1, .i q.2.1, .i q.2.2.1, .i q.2.2.2] ∧ j ≤ M.length ∧ M.length ≤ 64
def lpMc : List D → List D
  | [v, .i c, .l ks, .i _, .i i, _, _, _, _, .l C, .i a, .i b, .i e, .i d] => scB (fun k => (!(around C (cP C c.toNat)).contains (k : Int) && !(around C (cP C k)).contains c) && ovQ ((ks.map decQ).getD k z4) (a, b, e, d)) (.b false) v ks.length i.toNat
  | _ => []
def prMc (ρ : List D) : Prop := ∃ (v : D) (c : Nat) (K : List Bx) (q : Bx) (g : Gd) (j : Nat), ρ = [v, .i (c : Int), .l (K.map encQ), .i (K.length : Int), .i (j : Int), .s g.nm, .b g.dr, .l g.N, .l g.E, .l g.C, .i q.1, .i q.2.1, .i q.2.2.1, .i q.2.2.2] ∧ j ≤ K.length ∧ K.length = c ∧ c < g.C.length ∧ validE g = 0
def conD (ds : List D) : List D := [.b ((around (cL ds 4) (cP (cL ds 4) (cI ds 6).toNat)).contains (cI ds 5))]
def conP (ds : List D) : Prop := ∃ (g : Gd) (c : Int) (k : Nat), ds = [.s g.nm, .b g.dr, .l g.N, .l g.E, .l g.C, .i c, .i (k : Int)] ∧ k < g.C.length ∧ validE g = 0
def apD (ds : List D) : List D := [.b (!overB (gOf ds) ((cL ds 5).map decQ) ((cL ds 6).map decQ))]
def apP (ds : List D) : Prop := ∃ (g : Gd) (M K : List Bx), ds = [.s g.nm, .b g.dr, .l g.N, .l g.E, .l g.C, .l (M.map encQ), .l (K.map encQ)] ∧ validE g = 0 ∧ M.length = g.N.length ∧ K.length = g.C.length
def chD (ds : List D) : List D := [.i (chkE (gOf ds) (oOf ds 5) ((cL ds 10).map decQ) ((cL ds 11).map decQ))]
def lpT0 : List D → List D
  | [.l ms, v, .i i, _, _, .l N, _, _] => scB (badS N (ms.map decQ)) (.i 13) v ms.length i.toNat
  | _ => []
def prT0 (ρ : List D) : Prop := ∃ (v : D) (M : List Bx) (g : Gd) (j : Nat), ρ = [.l (M.map encQ), v, .i (j : Int), .s g.nm, .b g.dr, .l g.N, .l g.E, .l g.C] ∧ j ≤ M.length ∧ g.N.length = M.length ∧ M.length ≤ 64 ∧ ∀ q ∈ M, smQ q
def lpT1 : List D → List D
  | [.l ms, .l ks, v, .i i, _, _, .l N, _, _, .i _, .i _, .i _, .i m, .i _] => scB (outN N (ms.map decQ) (ks.map decQ) m) (.i 3) v N.length i.toNat
  | _ => []
def prT1 (ρ : List D) : Prop := ∃ (v : D) (M K : List Bx) (g : Gd) (o : Od) (j : Nat), ρ = [.l (M.map encQ), .l (K.map encQ), v, .i (j : Int), .s g.nm, .b g.dr, .l g.N, .l g.E, .l g.C, .i o.md, .i o.ns, .i o.rs, .i o.m, .i o.rd] ∧ j ≤ g.N.length ∧ g.N.length ≤ 64 ∧ M.length = g.N.length ∧ numN g.N K.length ∧ 0 ≤ o.m ∧ o.m ≤ 1048576
def lpT2 : List D → List D
  | [.l ks, v, .i i, _, _, _, _, .l C, .i _, .i _, .i _, .i m, .i _] => scB (outC C (ks.map decQ) m) (.i 3) v C.length i.toNat
  | _ => []
def prT2 (ρ : List D) : Prop := ∃ (v : D) (K : List Bx) (g : Gd) (o : Od) (j : Nat), ρ = [.l (K.map encQ), v, .i (j : Int), .s g.nm, .b g.dr, .l g.N, .l g.E, .l g.C, .i o.md, .i o.ns, .i o.rs, .i o.m, .i o.rd] ∧ j ≤ g.C.length ∧ g.C.length ≤ 16 ∧ K.length = g.C.length ∧ numC g.C ∧ 0 ≤ o.m ∧ o.m ≤ 1048576
def okIrD (ds : List D) : List D := [.b (okIn (rQ ds 0) ((cL ds 4).map decQ) (cI ds 5) (cI ds 6))]
def okIrP (ds : List D) : Prop := ∃ (q : Bx) (c : D) (K : List Bx) (m : Int), ds = [.i q.1, .i q.2.1, .i q.2.2.1, .i q.2.2.2, .l (K.map encQ), c, .i m] ∧ c.int < K.length ∧ 0 ≤ m ∧ m ≤ 1048576
def lpZd : List D → List D
  | [.l ms, v, .i i] => scB (fun w => !bxQ ((ms.map decQ).getD w z4)) (.b false) v ms.length i.toNat
  | _ => []
def prZd (ρ : List D) : Prop := ∃ (v : D) (M : List Bx) (j : Nat), ρ = [.l (M.map encQ), v, .i (j : Int)] ∧ j ≤ M.length ∧ M.length ≤ maxLen
def zdD (ds : List D) : List D := [.b (!badL ((cL ds 0).map decQ) && (((cL ds 0).length : Int) == cI ds 1))]
def lpO0 : List D → List D
  | [.l ms, v, .i i] => scB (ovN (ms.map decQ)) (.b true) v ms.length i.toNat
  | _ => []
def lpO1 : List D → List D
  | [.l ms, v, .i k, .i i] => scB (ovJ (ms.map decQ) ((ms.map decQ).getD k.toNat z4)) (.b true) v k.toNat i.toNat
  | _ => []
def prO1 (ρ : List D) : Prop := ∃ (v : D) (M : List Bx) (k j : Nat), ρ = [.l (M.map encQ), v, .i (k : Int), .i (j : Int)] ∧ j ≤ k ∧ k < M.length ∧ M.length ≤ maxLen
def lpO2 : List D → List D
  | [.l ms, .l ks, v, .i i, _, _, .l N, _, .l C] => scB (mixAny N C (ms.map decQ) (ks.map decQ)) (.b true) v ks.length i.toNat
  | _ => []
def prO2 (ρ : List D) : Prop := ∃ (v : D) (M K : List Bx) (g : Gd) (j : Nat), ρ = [.l (M.map encQ), .l (K.map encQ), v, .i (j : Int), .s g.nm, .b g.dr, .l g.N, .l g.E, .l g.C] ∧ j ≤ K.length ∧ validE g = 0 ∧ M.length = g.N.length ∧ K.length = g.C.length
def lpO3 : List D → List D
  | [.l ms, .l ks, v, .i c, .l xs, .i i] => scB (fun w => !(xs.map decN).contains w && ovQ ((ms.map decQ).getD w z4) ((ks.map decQ).getD c.toNat z4)) (.b true) v ms.length i.toNat
  | _ => []
def prO3 (ρ : List D) : Prop := ∃ (v : D) (M K : List Bx) (c : Nat) (l : List Nat) (j : Nat), ρ = [.l (M.map encQ), .l (K.map encQ), v, .i (c : Int), .l (l.map encN), .i (j : Int)] ∧ j ≤ M.length ∧ M.length ≤ 64 ∧ c < K.length
def lpO4 : List D → List D
  | [.l ks, v, .i c, .i i, _, _, _, _, .l C] => scB (mixC C (ks.map decQ) c.toNat) (.b true) v c.toNat i.toNat
  | _ => []
def prO4 (ρ : List D) : Prop := ∃ (v : D) (K : List Bx) (c : Nat) (g : Gd) (j : Nat), ρ = [.l (K.map encQ), v, .i (c : Int), .i (j : Int), .s g.nm, .b g.dr, .l g.N, .l g.E, .l g.C] ∧ j ≤ c ∧ c < K.length ∧ K.length = g.C.length ∧ validE g = 0
def overD (ds : List D) : List D := [.b (overB (gOf ds) ((cL ds 5).map decQ) ((cL ds 6).map decQ))]
def lpHs : List D → List D
  | [.l xs, .i n, v, .i i] => scB (fun j => cI (el xs j) 0 == n) (.b true) v xs.length i.toNat
  | _ => []
def prHs (ρ : List D) : Prop := ∃ (v : D) (xs : List (List D)) (n : Int) (j : Nat), ρ = [.l xs, .i n, v, .i (j : Int)] ∧ j ≤ xs.length ∧ xs.length ≤ maxLen
def hsD (ds : List D) : List D := [.b (anyN (fun j => cI (el (cL ds 0) j) 0 == cI ds 1) (cL ds 0).length)]
def lpIn : List D → List D
  | [.i a, .i b, v, _, _, _, _, .l C] => if (around C a).contains b = true then [.i 0, .i b, .b true] else [.i 1, .i (-1), v]
  | _ => []
def prIn (ρ : List D) : Prop := ∃ (a b : Int) (v : D) (g : Gd), ρ = [.i a, .i b, v, .s g.nm, .b g.dr, .l g.N, .l g.E, .l g.C] ∧ atC g.C a ∧ rowI1 g.C
def innD (ds : List D) : List D := [.b ((around (cL ds 4) (cI ds 5)).contains (cI ds 6))]
def innP (ds : List D) : Prop := atC (cL ds 4) (cI ds 5)
def same4 (x y : List D) : Bool := (cI x 0 == cI y 0) && ((cI x 1 == cI y 1) && ((cI x 2 == cI y 2) && (cI x 3 == cI y 3)))
def lpS4 : List D → List D
  | [.l xs, .l ys, v, .i i] => scB (fun j => !same4 (el xs j) (el ys j)) (.b false) v xs.length i.toNat
  | _ => []
def prS4 (ρ : List D) : Prop := ∃ (xs ys : List (List D)) (v : D) (j : Nat), ρ = [.l xs, .l ys, v, .i (j : Int)] ∧ j ≤ xs.length ∧ xs.length ≤ maxLen ∧ ys.length = xs.length
def sameLD (ds : List D) : List D := [.b (eqR same4 (cL ds 0) (cL ds 1))]
def lpF0 : List D → List D
  | [v, .i i, _, _, .l N, _, _] => scB (fwNd N) (.b false) v N.length i.toNat
  | _ => []
def prF0 (ρ : List D) : Prop := ∃ (v : D) (g : Gd) (j : Nat), ρ = [v, .i (j : Int), .s g.nm, .b g.dr, .l g.N, .l g.E, .l g.C] ∧ j ≤ g.N.length ∧ g.N.length ≤ 64 ∧ ∀ k, k < g.N.length → (el g.N k).length = 6 ∧ ∃ xs, (el g.N k).getD 5 default = .l xs
def lpF1 : List D → List D
  | [v, .i i, _, _, _, _, _, .l xs] => scB (fwPt xs) (.b false) v xs.length i.toNat
  | _ => []
def prF1 (ρ : List D) : Prop := ∃ (v a b c d e : D) (xs : List (List D)) (j : Nat), ρ = [v, .i (j : Int), a, b, c, d, e, .l xs] ∧ j ≤ xs.length ∧ xs.length ≤ 9
def lpF2 : List D → List D
  | [v, .i i, _, _, _, .l E, _] => scB (fwEd E) (.b false) v E.length i.toNat
  | _ => []
def prF2 (ρ : List D) : Prop := ∃ (v : D) (g : Gd) (j : Nat), ρ = [v, .i (j : Int), .s g.nm, .b g.dr, .l g.N, .l g.E, .l g.C] ∧ j ≤ g.E.length ∧ g.E.length ≤ 64
def lpF3 : List D → List D
  | [v, .i i, _, _, _, _, .l C] => scB (fwPt C) (.b false) v C.length i.toNat
  | _ => []
def prF3 (ρ : List D) : Prop := ∃ (v : D) (g : Gd) (j : Nat), ρ = [v, .i (j : Int), .s g.nm, .b g.dr, .l g.N, .l g.E, .l g.C] ∧ j ≤ g.C.length ∧ g.C.length ≤ 64
def fewGD (ds : List D) : List D := [.b (fewG (gOf ds) (cI ds 5) (cI ds 6))]
def fewGP (ds : List D) : Prop := cI ds 5 ≤ 64 ∧ cI ds 6 ≤ 64
end Go.RV
namespace Go.RV
open Go.RowKit
def relB (N : List (List D)) (B M : List Bx) (i k : Nat) : Bool := (nC N i == nC N k) && (!((M.getD i z4).1 - (M.getD k z4).1 == (B.getD i z4).1 - (B.getD k z4).1) || !((M.getD i z4).2.1 - (M.getD k z4).2.1 == (B.getD i z4).2.1 - (B.getD k z4).2.1))
def relAny (N : List (List D)) (B M : List Bx) (i : Nat) : Bool := anyN (relB N B M i) i
def prRel (N : List (List D)) (B M : List Bx) : Prop := M.length = B.length ∧ B.length = N.length ∧ N.length ≤ 64 ∧ (∀ q ∈ B, smQ q) ∧ ∀ q ∈ M, smQ q
def lpX1 : List D → List D
  | [.l bs, v, .l ms, .i i, .i k, _, _, .l N, _, _] => scB (relB N (bs.map decQ) (ms.map decQ) i.toNat) (.b false) v i.toNat k.toNat
  | _ => []
def prX1 (ρ : List D) : Prop := ∃ (v : D) (B M : List Bx) (g : Gd) (i j : Nat), ρ = [.l (B.map encQ), v, .l (M.map encQ), .i (i : Int), .i (j : Int), .s g.nm, .b g.dr, .l g.N, .l g.E, .l g.C] ∧ j ≤ i ∧ i < M.length ∧ prRel g.N B M
def lpX0 : List D → List D
  | [.l bs, v, .l ms, .i i, _, _, .l N, _, _] => scB (relAny N (bs.map decQ) (ms.map decQ)) (.b false) v ms.length i.toNat
  | _ => []
def prX0 (ρ : List D) : Prop := ∃ (v : D) (B M : List Bx) (g : Gd) (j : Nat), ρ = [.l (B.map encQ), v, .l (M.map encQ), .i (j : Int), .s g.nm, .b g.dr, .l g.N, .l g.E, .l g.C] ∧ j ≤ M.length ∧ prRel g.N B M
def wideQ (q : Bx) (n : Int) : Bx := (q.1 - n, q.2.1 - n, q.2.2.1 + n, q.2.2.2 + n)
def nrN (N : List (List D)) (M : List Bx) (c : Int) (w : Bx) (k : Nat) : Bool := (nC N k == c) && ovQ w (M.getD k z4)
def nrC (C : List (List D)) (K : List Bx) (c : Int) (w : Bx) (k : Nat) : Bool := (cP C k == c) && ovQ w (K.getD k z4)
def nrAny (N C : List (List D)) (M K : List Bx) (ns : Int) (i : Nat) : Bool := bxQ (wideQ (K.getD i z4) ns) && (anyN (nrN N M (cP C i) (wideQ (K.getD i z4) ns)) M.length || anyN (nrC C K (cP C i) (wideQ (K.getD i z4) ns)) i)
def lpW1' : List D → List D
  | [v, .l ms, .i i, .i k, _, _, .l N, _, .l C, .i a, .i b, .i c, .i d] => scB (nrN N (ms.map decQ) (cP C i.toNat) (a, b, c, d)) (.b false) v ms.length k.toNat
  | _ => []
def prW1' (ρ : List D) : Prop := ∃ (v : D) (M : List Bx) (i : Nat) (g : Gd) (w : Bx) (j : Nat), ρ = [v, .l (M.map encQ), .i (i : Int), .i (j : Int), .s g.nm, .b g.dr, .l g.N, .l g.E, .l g.C, .i w.1, .i w.2.1, .i w.2.2.1, .i w.2.2.2] ∧ j ≤ M.length ∧ M.length = g.N.length ∧ M.length ≤ 64 ∧ i < g.C.length
def lpW2' : List D → List D
  | [v, .l ks, .i i, .i k, _, _, _, _, .l C, .i a, .i b, .i c, .i d] => scB (nrC C (ks.map decQ) (cP C i.toNat) (a, b, c, d)) (.b false) v i.toNat k.toNat
  | _ => []
def prW2' (ρ : List D) : Prop := ∃ (v : D) (K : List Bx) (i : Nat) (g : Gd) (w : Bx) (j : Nat), ρ = [v, .l (K.map encQ), .i (i : Int), .i (j : Int), .s g.nm, .b g.dr, .l g.N, .l g.E, .l g.C, .i w.1, .i w.2.1, .i w.2.2.1, .i w.2.2.2] ∧ j ≤ i ∧ i < g.C.length ∧ K.length = g.C.length ∧ K.length ≤ 16
def lpW0' : List D → List D
  | [v, .l ms, .l ks, .i i, _, _, .l N, _, .l C, _, .i ns, _, _, _] => scB (nrAny N C (ms.map decQ) (ks.map decQ) ns) (.b false) v ks.length i.toNat
  | _ => []
def prW0' (ρ : List D) : Prop := ∃ (v : D) (M K : List Bx) (g : Gd) (o : Od) (j : Nat), ρ = [v, .l (M.map encQ), .l (K.map encQ), .i (j : Int), .s g.nm, .b g.dr, .l g.N, .l g.E, .l g.C, .i o.md, .i o.ns, .i o.rs, .i o.m, .i o.rd] ∧ j ≤ K.length ∧ K.length = g.C.length ∧ K.length ≤ 16 ∧ M.length = g.N.length ∧ M.length ≤ 64 ∧ (0 ≤ o.ns ∧ o.ns ≤ 1048576) ∧ ∀ q ∈ K, smQ q
end Go.RV
namespace Go.RV
open Go.RowKit
def aprt (g : Int) (a b : Bx) : Prop := a.2.2.1 + g ≤ b.1 ∨ a.2.2.2 + g ≤ b.2.1
def szd (p : Pt) (q : Bx) : Prop := q.2.2.1 = q.1 + p.1 ∧ q.2.2.2 = q.2.1 + p.2 ∧ (0 ≤ q.1 ∧ q.1 ≤ 134217728) ∧ 0 ≤ q.2.1 ∧ q.2.1 ≤ 134217728
def szds : List Pt → List Bx → Prop
  | [], [] => True
  | p :: ps, q :: qs => szd p q ∧ szds ps qs
  | _, _ => False
theorem szds_len : ∀ {ps : List Pt} {qs : List Bx}, szds ps qs → qs.length = ps.length
  | [], [], _ => rfl
  | _ :: _, _ :: _, h => by simp [szds_len h.2]
theorem szds_app : ∀ {ps ps' : List Pt} {qs qs' : List Bx}, szds ps qs → szds ps' qs' → szds (ps ++ ps') (qs ++ qs')
  | [], _, [], _, _, h' => h'
  | _ :: _, _, _ :: _, _, h, h' => ⟨h.1, szds_app h.2 h'⟩
theorem szds_get : ∀ {ps : List Pt} {qs : List Bx}, szds ps qs → ∀ i, i < ps.length → szd (ps.getD i pz) (qs.getD i z4)
  | p :: ps, q :: qs, h, 0, _ => by simpa using h.1
  | p :: ps, q :: qs, h, i + 1, hi => by simpa using szds_get h.2 i (by simpa using hi)
theorem szds_mem : ∀ {ps : List Pt} {qs : List Bx}, szds ps qs → ∀ q ∈ qs, ∃ p ∈ ps, szd p q
  | [], [], _, _, hr => by cases hr
  | [], _ :: _, h, _, _ => h.elim
  | _ :: _, [], h, _, _ => h.elim
  | p :: ps, q :: qs, h, r, hr => by
    cases hr with
    | head => exact ⟨p, by simp, h.1⟩
    | tail _ hr =>
      obtain ⟨p', h1, h2⟩ := szds_mem h.2 r hr
      exact ⟨p', by simp [h1], h2⟩
structure ShI (g x y low : Int) (dn : List Pt) (acc : List Bx) : Prop where
  sz : szds dn acc
  ap : acc.Pairwise (aprt g)
  lo : ∀ q ∈ acc, q.2.2.2 ≤ low ∧ (q.2.2.1 + g ≤ x ∨ q.2.2.2 + g ≤ y)
  x0 : 0 ≤ x ∧ x ≤ dn.length * 2097152
  y0 : 0 ≤ y ∧ y ≤ dn.length * 2097152
  l0 : 0 ≤ low ∧ low ≤ dn.length * 2097152
  st : (acc = [] → x = 0 ∧ y = 0) ∧ (acc ≠ [] → (acc.getD 0 z4).1 = 0 ∧ (acc.getD 0 z4).2.1 = 0)
theorem ShI.put {g x y low x' y' low' : Int} {dn : List Pt} {acc : List Bx} (h : ShI g x y low dn acc) {p : Pt} (hp : (0 ≤ p.1 ∧ p.1 ≤ 1048576) ∧ 0 ≤ p.2 ∧ p.2 ≤ 1048576) (hl : dn.length < 64) {a b : Int} (ha : 0 ≤ a ∧ a ≤ dn.length * 2097152) (hb : 0 ≤ b ∧ b ≤ (dn.length + 1) * 2097152 - 1048576)
    (hn : ∀ q ∈ acc, aprt g q (a, b, a + p.1, b + p.2)) (hst : acc = [] → a = 0 ∧ b = 0)
    (h1 : ∀ q ∈ acc, q.2.2.2 ≤ low' ∧ (q.2.2.1 + g ≤ x' ∨ q.2.2.2 + g ≤ y')) (h2 : b + p.2 ≤ low' ∧ (a + p.1 + g ≤ x' ∨ b + p.2 + g ≤ y'))
    (hx : 0 ≤ x' ∧ x' ≤ (dn.length + 1) * 2097152) (hy : 0 ≤ y' ∧ y' ≤ (dn.length + 1) * 2097152) (hw : 0 ≤ low' ∧ low' ≤ (dn.length + 1) * 2097152) :
    ShI g x' y' low' (dn ++ [p]) (acc ++ [(a, b, a + p.1, b + p.2)]) where
  sz := szds_app h.sz ⟨⟨rfl, rfl, by simp only; omega, by simp only; omega⟩, trivial⟩
  ap := by
    rw [List.pairwise_append]
    exact ⟨h.ap, List.pairwise_singleton _ _, fun q hq r hr => by
      simp only [List.mem_singleton] at hr
      subst hr
      exact hn q hq⟩
  lo := fun q hq => by
    rcases List.mem_append.1 hq with hq | hq
    · exact h1 q hq
    · simp only [List.mem_singleton] at hq
      subst hq
      exact h2
  x0 := by rw [List.length_append]; simp only [List.length_singleton]; omega
  y0 := by rw [List.length_append]; simp only [List.length_singleton]; omega
  l0 := by rw [List.length_append]; simp only [List.length_singleton]; omega
  st := by
    refine ⟨fun hc => by simp at hc, fun _ => ?_⟩
    cases acc with
    | nil => simpa using hst rfl
    | cons q qs => simpa using h.st.2 (by simp)
theorem shelF_spec (w g : Int) (hg : 0 ≤ g ∧ g ≤ 1048576) : ∀ (l : List Pt) (f : Bool) (x y low : Int) (dn : List Pt) (acc : List Bx), szOk l → dn.length + l.length ≤ 64 → (f = false → dn ≠ []) → ShI g x y low dn acc →
    ∃ x' y' low', ShI g x' y' low' (dn ++ l) (shelF w g f x y low acc l).2.2.2
  | [], f, x, y, low, dn, acc, hs, hl, hf, h => ⟨x, y, low, by rw [List.append_nil]; exact h⟩
  | p :: ps, f, x, y, low, dn, acc, hs, hl, hf, h => by
    have hp := hs p (by simp)
    have hps : szOk ps := fun q hq => hs q (by simp [hq])
    have hx := h.x0; have hy := h.y0; have hlo := h.l0
    simp only [List.length_cons] at hl
    have he : dn ++ p :: ps = (dn ++ [p]) ++ ps := by simp
    have hlen : (dn ++ [p]).length + ps.length ≤ 64 := by rw [List.length_append]; simp only [List.length_singleton]; omega
    rw [he]
    unfold shelF
    split
    · rename_i hc
      have hfalse : f = false := by
        cases f
        · rfl
        · simp at hc
      refine shelF_spec w g hg ps false _ _ _ (dn ++ [p]) _ hps hlen (fun _ => by simp) ?_
      have := h.put (x' := p.1 + g) (y' := low + g) (low' := max (low + g) (low + g + p.2)) hp (by omega) (a := 0) (b := low + g) (by omega) (by omega)
        (fun q hq => .inr (by have := (h.lo q hq).1; simp only; omega))
        (fun hn => by
          subst hn
          have hd := h.sz
          cases dn with
          | nil => exact absurd rfl (hf hfalse)
          | cons _ _ => exact hd.elim)
        (fun q hq => by have := (h.lo q hq).1; omega) (by omega) (by omega) (by omega) (by omega)
      rw [Int.zero_add] at this
      exact this
    · refine shelF_spec w g hg ps false _ _ _ (dn ++ [p]) _ hps hlen (fun _ => by simp) ?_
      refine h.put hp (by omega) (a := x) (b := y) hx (by omega) (fun q hq => ?_) (fun hn => h.st.1 hn) (fun q hq => ?_) (by omega) (by omega) (by omega) (by omega)
      · rcases (h.lo q hq).2 with h1 | h1
        · exact .inl h1
        · exact .inr h1
      · have := h.lo q hq
        omega
theorem shel_spec {l : List Pt} {w g : Int} (hg : 0 ≤ g ∧ g ≤ 1048576) (hs : szOk l) (hl : l.length ≤ 64) : szds l (shel w g l) ∧ (shel w g l).Pairwise (aprt g) ∧ (0 < l.length → ((shel w g l).getD 0 z4).1 = 0 ∧ ((shel w g l).getD 0 z4).2.1 = 0) := by
  obtain ⟨x, y, low, h⟩ := shelF_spec w g hg l true 0 0 0 [] [] hs (by simpa using hl) (fun h => by cases h) ⟨trivial, List.Pairwise.nil, fun _ h => (by cases h), ⟨by omega, by simp⟩, ⟨by omega, by simp⟩, ⟨by omega, by simp⟩, ⟨fun _ => ⟨rfl, rfl⟩, fun hc => absurd rfl hc⟩⟩
  rw [List.nil_append] at h
  refine ⟨h.sz, h.ap, fun h0 => ?_⟩
  have hlen := szds_len h.sz
  refine h.st.2 fun hn => ?_
  rw [hn] at hlen
  simp at hlen
  omega
theorem best_spec {l : List Pt} {g : Int} (h : cerr l 0 g = 0) : szds l (best l g) ∧ (best l g).Pairwise (aprt g) ∧ (0 < l.length → ((best l g).getD 0 z4).1 = 0 ∧ ((best l g).getD 0 z4).2.1 = 0) := by
  obtain ⟨h1, _, h3, h4⟩ := cerr_ok h
  obtain ⟨v, e⟩ := best_shel l g
  rw [e]
  exact shel_spec h3 h1 h4
theorem szd_ok {p : Pt} {q : Bx} (h : szd p q) (hp : (0 ≤ p.1 ∧ p.1 ≤ 1048576) ∧ 0 ≤ p.2 ∧ p.2 ≤ 1048576) : bxQ q = true := by
  unfold szd at h
  simp only [bxQ, bxB_iff]
  omega
theorem best_ok {l : List Pt} {g : Int} (h : cerr l 0 g = 0) {q : Bx} (hq : q ∈ best l g) : bxQ q = true := by
  obtain ⟨p, hp, h2⟩ := szds_mem (best_spec h).1 q hq
  exact szd_ok h2 ((cerr_ok h).1 p hp)
theorem uniF_sub : ∀ (l : List Bx) (s : Bool × Bx), (∀ q ∈ l, bxQ q = true) → (s.1 = true → subQ s.2 (uniF s l).2) ∧ ∀ q ∈ l, subQ q (uniF s l).2
  | [], s, h => ⟨fun _ => subQ_refl _, fun q hq => by cases hq⟩
  | a :: l, s, h => by
    rw [uniF, if_pos (h a (by simp))]
    obtain ⟨h1, h2⟩ := uniF_sub l (stepB s (some a)) fun q hq => h q (by simp [hq])
    unfold stepB at h1 h2 ⊢
    simp only at h1 h2 ⊢
    by_cases hs : s.1 = true
    · rw [if_pos hs] at h1 h2 ⊢
      refine ⟨fun _ => (subQ_l _ _).trans (h1 rfl), fun q hq => ?_⟩
      cases hq with
      | head => exact (subQ_r _ _).trans (h1 rfl)
      | tail _ hq => exact h2 q hq
    · rw [if_neg hs] at h1 h2 ⊢
      refine ⟨fun hc => absurd hc hs, fun q hq => ?_⟩
      cases hq with
      | head => exact h1 rfl
      | tail _ hq => exact h2 q hq
theorem uni_sub {l : List Bx} (h : ∀ q ∈ l, bxQ q = true) {q : Bx} (hq : q ∈ l) : subQ q (uni l) := (uniF_sub l _ h).2 q hq
theorem uniF_lo : ∀ (l : List Bx) (s : Bool × Bx), (∀ q ∈ l, 0 ≤ q.1 ∧ 0 ≤ q.2.1) → 0 ≤ s.2.1 ∧ 0 ≤ s.2.2.1 → 0 ≤ (uniF s l).2.1 ∧ 0 ≤ (uniF s l).2.2.1
  | [], s, _, hs => hs
  | a :: l, s, h, hs => by
    rw [uniF]
    refine uniF_lo l _ (fun q hq => h q (by simp [hq])) ?_
    have ha := h a (by simp)
    split
    · unfold stepB
      simp only
      split
      · simp only [join]; omega
      · exact ha
    · exact hs
theorem uni_at0 {l : List Bx} (h : ∀ q ∈ l, bxQ q = true) (hp : ∀ q ∈ l, 0 ≤ q.1 ∧ 0 ≤ q.2.1) (h0 : 0 < l.length → (l.getD 0 z4).1 = 0 ∧ (l.getD 0 z4).2.1 = 0) : (uni l).1 = 0 ∧ (uni l).2.1 = 0 := by
  have hlo := uniF_lo l (false, z4) hp ⟨by decide, by decide⟩
  cases l with
  | nil => exact ⟨rfl, rfl⟩
  | cons a l =>
    have h1 := uni_sub h (q := a) (by simp)
    have h2 : a.1 = 0 ∧ a.2.1 = 0 := by simpa using h0 (by simp)
    unfold subQ at h1
    unfold uni at h1 ⊢
    omega
theorem best_at0 {l : List Pt} {g : Int} (h : cerr l 0 g = 0) : (uni (best l g)).1 = 0 ∧ (uni (best l g)).2.1 = 0 := by
  obtain ⟨h1, _, h3⟩ := best_spec h
  refine uni_at0 (fun q hq => best_ok h hq) (fun q hq => ?_) fun h0 => h3 (by rw [best_len] at h0; exact h0)
  obtain ⟨p, _, hp⟩ := szds_mem h1 q hq
  unfold szd at hp
  omega
theorem smQ_best {l : List Pt} {g : Int} (h : cerr l 0 g = 0) {q : Bx} (hq : q ∈ best l g) : smQ q := smQ_of (best_ok h hq)
end Go.RV
namespace Go.RV
open Go.RowKit
theorem heads_mem {N C : List (List D)} {c h : Int} (hm : h ∈ heads N C c) : -1 ≤ h ∧ h < C.length ∧ (0 ≤ h → cP C h.toNat = c) := by
  unfold heads at hm
  rcases List.mem_append.1 hm with h1 | h1
  · split at h1
    · simp only [List.mem_singleton] at h1
      subst h1
      exact ⟨by omega, by omega, fun h => by omega⟩
    · cases h1
  · obtain ⟨k, hk, rfl⟩ := List.mem_map.1 h1
    obtain ⟨h2, h3⟩ := pick_lt hk
    refine ⟨by omega, by omega, fun _ => ?_⟩
    unfold kidP at h3
    rw [Int.toNat_natCast]
    exact eq_of_beq h3
theorem tps_mem {a : Ar} {S : List Pt} {c : Int} {t : Tp} (h : t ∈ a.t S c) : t.1 ∈ heads a.N a.C c ∧ t.2 ∈ best (a.P S c) a.ns := by
  obtain ⟨t1, t2⟩ := t
  exact List.of_mem_zip h
theorem okTs_t {a : Ar} {S : List Pt} {c : Int} (h : a.e S c = 0) : okTs a.C.length (a.t S c) ∧ (a.t S c).length ≤ 64 := by
  refine ⟨fun t ht => ?_, ?_⟩
  · obtain ⟨h1, h2⟩ := tps_mem ht
    obtain ⟨h3, h4, _⟩ := heads_mem h1
    exact ⟨smQ_best h h2, h3, h4⟩
  · have h1 := (cerr_ok h).2.2.2
    have h2 : (a.t S c).length ≤ (best (a.P S c) a.ns).length := by
      show (List.zip _ _).length ≤ _
      rw [List.length_zip]
      exact Nat.min_le_right _ _
    rw [best_len] at h2
    omega
theorem P_congr {a : Ar} {S S2 : List Pt} {c : Int} (h : ∀ k ∈ kidL a.C c, S.getD k pz = S2.getD k pz) : a.P S c = a.P S2 c := by
  unfold Ar.P partP
  rw [List.map_congr_left h]
theorem kid_gt {a : Ar} (hC : okC a.C a.C.length) {c : Int} {k : Nat} (hk : k ∈ kidL a.C c) : k < a.C.length ∧ c < k := by
  obtain ⟨h1, h2⟩ := pick_lt hk
  have h3 := hC k h1
  have h4 : cP a.C k = c := eq_of_beq h2
  have h5 : cI (el a.C k) 1 = c := h4
  exact ⟨h1, by omega⟩
theorem e_congr {a : Ar} {S S2 : List Pt} {c : Int} (h : a.P S c = a.P S2 c) : a.e S c = a.e S2 c := by unfold Ar.e; rw [h]
theorem z_congr {a : Ar} {S S2 : List Pt} {c : Int} (h : a.P S c = a.P S2 c) : a.z S c = a.z S2 c := by unfold Ar.z; rw [h]
theorem t_congr {a : Ar} {S S2 : List Pt} {c : Int} (h : a.P S c = a.P S2 c) : a.t S c = a.t S2 c := by
  have e : ∀ S, a.t S c = (heads a.N a.C c).zip (best (a.P S c) a.ns) := fun _ => rfl
  rw [e, e, h]
def Ar.at (a : Ar) (S' : List Pt) (T' : List (List Tp)) (c : Nat) : Prop := a.e S' c = 0 ∧ zOk (a.z S' c) = true ∧ S'.getD c pz = a.z S' c ∧ T'.getD c [] = a.t S' c
theorem getD_setS {α : Type} {l : List α} {i : Nat} {x d : α} (h : i < l.length) : (l.set i x).getD i d = x := by
  simp [List.getD, h]
theorem getD_setN {α : Type} {l : List α} {i j : Nat} {x d : α} (h : i ≠ j) : (l.set i x).getD j d = l.getD j d := by
  simp [List.getD, h]
theorem run_spec (a : Ar) (hC : okC a.C a.C.length) : ∀ (k : Nat) (S S' : List Pt) (T T' : List (List Tp)), k ≤ a.C.length → S.length = a.C.length → T.length = a.C.length + 1 → a.run k S T = some (S', T') →
    (∀ c : Nat, k ≤ c → S'.getD c pz = S.getD c pz) ∧ (∀ c : Nat, k ≤ c → c < a.C.length → T'.getD c [] = T.getD c []) ∧ (∀ c : Nat, c < k → a.at S' T' c) ∧ a.e S' (-1) = 0 ∧ T'.getD a.C.length [] = a.t S' (-1)
  | 0, S, S', T, T', hk, hS, hT, h => by
    unfold Ar.run at h
    split at h
    · rename_i h0
      simp only [Option.some.injEq, Prod.mk.injEq] at h
      obtain ⟨rfl, rfl⟩ := h
      exact ⟨fun _ _ => rfl, fun c _ hc => getD_setN (by omega), fun c hc => by omega, h0, getD_setS (by omega)⟩
    · cases h
  | k + 1, S, S', T, T', hk, hS, hT, h => by
    unfold Ar.run at h
    split at h
    · rename_i h0
      split at h
      · rename_i h1
        obtain ⟨r1, r2, r3, r4, r5⟩ := run_spec a hC k _ _ _ _ (by omega) ((List.length_set ..).trans hS) ((List.length_set ..).trans hT) h
        have hP : a.P S' k = a.P S k := P_congr fun j hj => by
          obtain ⟨g1, g2⟩ := kid_gt hC hj
          rw [r1 j (by omega), getD_setN (by omega)]
        refine ⟨fun c hc => ?_, fun c hc hc2 => ?_, fun c hc => ?_, r4, r5⟩
        · rw [r1 c (by omega), getD_setN (by omega)]
        · rw [r2 c (by omega) hc2, getD_setN (by omega)]
        · by_cases hck : c < k
          · exact r3 c hck
          · have : c = k := by omega
            subst this
            refine ⟨(e_congr hP).trans h0, by rw [z_congr hP]; exact h1, ?_, ?_⟩
            · rw [r1 c (Nat.le_refl _), getD_setS (by omega), z_congr hP]
            · rw [r2 c (Nat.le_refl _) (by omega), getD_setS (by omega), t_congr hP]
      · cases h
    · cases h
theorem run_lens (a : Ar) : ∀ (k : Nat) (S S' : List Pt) (T T' : List (List Tp)), a.run k S T = some (S', T') → S'.length = S.length ∧ T'.length = T.length
  | 0, S, S', T, T', h => by
    unfold Ar.run at h
    split at h
    · simp only [Option.some.injEq, Prod.mk.injEq] at h
      obtain ⟨rfl, rfl⟩ := h
      exact ⟨rfl, List.length_set ..⟩
    · cases h
  | k + 1, S, S', T, T', h => by
    unfold Ar.run at h
    split at h
    · split at h
      · obtain ⟨h1, h2⟩ := run_lens a k _ _ _ _ h
        exact ⟨h1.trans (List.length_set ..), h2.trans (List.length_set ..)⟩
      · cases h
    · cases h
structure Ar.done (a : Ar) (S : List Pt) (T : List (List Tp)) : Prop where
  sl : S.length = a.C.length
  tl : T.length = a.C.length + 1
  at' : ∀ c : Nat, c < a.C.length → a.at S T c
  e1 : a.e S (-1) = 0
  t1 : T.getD a.C.length [] = a.t S (-1)
theorem all_done {a : Ar} (hC : okC a.C a.C.length) {S : List Pt} {T : List (List Tp)} (h : a.all = some (S, T)) : a.done S T := by
  obtain ⟨h1, h2⟩ := run_lens _ _ _ _ _ _ h
  have h3 : a.S0.length = a.C.length := by simp [Ar.S0]
  have h4 : a.T0.length = a.C.length + 1 := by simp [Ar.T0]
  obtain ⟨_, _, r3, r4, r5⟩ := run_spec a hC _ _ _ _ _ (Nat.le_refl _) h3 h4 h
  exact ⟨h1.trans h3, h2.trans h4, r3, r4, r5⟩
theorem Ar.done.all_e {a : Ar} {S : List Pt} {T : List (List Tp)} (h : a.done S T) {c : Int} (h1 : -1 ≤ c) (h2 : c < a.C.length) : a.e S c = 0 := by
  by_cases h0 : 0 ≤ c
  · have := (h.at' c.toNat (by omega)).1
    rwa [show ((c.toNat : Nat) : Int) = c by omega] at this
  · rw [show c = -1 by omega]; exact h.e1
theorem Ar.done.okT {a : Ar} {S : List Pt} {T : List (List Tp)} (h : a.done S T) : ∀ l ∈ T, okTs a.C.length l ∧ l.length ≤ 64 := fun l hl => by
  obtain ⟨i, hi, rfl⟩ := List.getElem_of_mem hl
  have e : T[i] = T.getD i [] := by simp [List.getD, hi]
  have htl := h.tl
  by_cases hn : i < a.C.length
  · rw [e, (h.at' i hn).2.2.2]
    exact okTs_t (h.at' i hn).1
  · rw [e, show i = a.C.length by omega, h.t1]
    exact okTs_t h.e1
theorem near_set {n : Int} {K : List Bx} {i : Nat} {q : Bx} (h : near n K) (hq : (-n ≤ q.1 ∧ q.1 ≤ n) ∧ -n ≤ q.2.1 ∧ q.2.1 ≤ n) : near n (K.set i q) := fun r hr => by
  rcases List.mem_or_eq_of_mem_set hr with h1 | h1
  · exact h r h1
  · rw [h1]; exact hq
theorem near_put {n m : Int} {B : List Bx} {own : List Nat} {x y : Int} (hx : -n ≤ x ∧ x ≤ n) (hy : -n ≤ y ∧ y ≤ n) (hm : n + 1073741824 ≤ m) : ∀ (l : List Tp) (s : Pl), (∀ t ∈ l, smQ t.2) → near m s.2 → near m (putTs B own x y l s).2
  | [], s, _, h => h
  | t :: l, s, hl, h => by
    show near m (putTs B own x y l (putT B own x y s t)).2
    refine near_put hx hy hm l _ (fun u hu => hl u (by simp [hu])) ?_
    have ht := hl t (by simp)
    unfold smQ at ht
    unfold putT
    split
    · refine near_set h ?_
      unfold shQ
      simp only
      omega
    · exact h
theorem nearK_mono {n m : Int} (h : n ≤ m) {K : List Bx} (hk : near n K) : near m K := fun q hq => by
  have := hk q hq
  omega
theorem near_z (n : Nat) {m : Int} (h : 0 ≤ m) : near m (List.replicate n z4) := fun q hq => by
  rw [(List.mem_replicate.1 hq).2]
  show (-m ≤ 0 ∧ 0 ≤ m) ∧ -m ≤ 0 ∧ 0 ≤ m
  omega
theorem pTN_len (B : List Bx) (x y : Int) : ∀ (l : List Nat) (M : List Bx), (putN B l x y M).length = M.length
  | [], M => rfl
  | v :: l, M => by
    show (putN B l x y (M.set v _)).length = _
    rw [pTN_len B x y l, List.length_set]
theorem pTs_len (B : List Bx) (own : List Nat) (x y : Int) : ∀ (l : List Tp) (s : Pl), (putTs B own x y l s).1.length = s.1.length ∧ (putTs B own x y l s).2.length = s.2.length
  | [], s => ⟨rfl, rfl⟩
  | t :: l, s => by
    obtain ⟨h1, h2⟩ := pTs_len B own x y l (putT B own x y s t)
    have h3 : (putT B own x y s t).1.length = s.1.length ∧ (putT B own x y s t).2.length = s.2.length := by
      unfold putT
      split
      · exact ⟨rfl, List.length_set ..⟩
      · exact ⟨pTN_len .., rfl⟩
    exact ⟨h1.trans h3.1, h2.trans h3.2⟩
theorem near_at {n : Int} {K : List Bx} (h : near n K) {c : Nat} (hc : c < K.length) : (-n ≤ (K.getD c z4).1 ∧ (K.getD c z4).1 ≤ n) ∧ -n ≤ (K.getD c z4).2.1 ∧ (K.getD c z4).2.1 ≤ n := by
  refine h _ ?_
  have e : K.getD c z4 = K[c] := by simp [List.getD, hc]
  rw [e]; exact List.getElem_mem hc
theorem badB_ok {N : List (List D)} {B : List Bx} (h : anyN (badB N B) B.length = false) : ∀ b ∈ B, bxQ b = true := fun b hb => by
  obtain ⟨i, hi, rfl⟩ := List.getElem_of_mem hb
  have := anyN_false.1 h i hi
  have e : B.getD i z4 = B[i] := by simp [List.getD, hi]
  rw [badB, e] at this
  simp only [Bool.or_eq_false_iff, Bool.not_eq_false'] at this
  exact this.1
end Go.RV
