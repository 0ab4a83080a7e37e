/-
 RV, part 1: what a symbolic run over a loaded program is made of: the types of cells, data, expressions over data, symbolic values, states; and when a value in memory represents a datum. Nothing here is about one program.; RV, part 1b: names for what calls give: expressions in which calls are variables.; RV, part 2: the symbolic run: states, what each operation does to them, regions, code, loops, functions. All of it is computed; part 3 and the following parts prove that it tells the truth.
-/
import Derived.WalkKit
namespace Go
theorem gz0 {α : Type} {x : α} {xs : List α} {d : α} : (x :: xs).getD 0 d = x := List.getD_cons_zero
theorem gs0 {α : Type} {x : α} {xs : List α} {n : Nat} {d : α} : (x :: xs).getD (n + 1) d = xs.getD n d := List.getD_cons_succ
theorem tn0 (n : Nat) : (n : Int).toNat = n := rfl
theorem fe0 : (false = true) = False := Bool.false_eq_true
theorem si0 {α : Type} (a b : α) : (some a = some b) = (a = b) := Option.some.injEq a b
theorem lm0 {α β : Type} {l : List α} (f : α → β) : (l.map f).length = l.length := List.length_map f
end Go
namespace Go.RV
open Go.RowKit
inductive CT where
 | int (k : IntKind) | bool | str
 | sl (e : TypeId) (cts : List CT)
 | pt (cts : List CT)
 | pn (cts : List CT)
 | clo
 | ifc
 | osl (e : TypeId) (cts : List CT)
 deriving Inhabited
mutual
def CT.beq : CT → CT → Bool
 | .int k, .int k' => k == k'
 | .bool, .bool => true
 | .str, .str => true
 | .clo, .clo => true
 | .ifc, .ifc => true
 | .sl e cs, .sl e' cs' => e == e' && CT.beqs cs cs'
 | .osl e cs, .osl e' cs' => e == e' && CT.beqs cs cs'
 | .pt cs, .pt cs' => CT.beqs cs cs'
 | .pn cs, .pn cs' => CT.beqs cs cs'
 | _, _ => false
def CT.beqs : List CT → List CT → Bool
 | [], [] => true
 | a :: as, b :: bs => CT.beq a b && CT.beqs as bs
 | _, _ => false
end
mutual
theorem CT.beq_eq : ∀ a b : CT, CT.beq a b = true → a = b
 | .int k, b => by cases b <;> simp [CT.beq]
 | .bool, b => by cases b <;> simp [CT.beq]
 | .str, b => by cases b <;> simp [CT.beq]
 | .clo, b => by cases b <;> simp [CT.beq]
 | .ifc, b => by cases b <;> simp [CT.beq]
 | .sl e cs, b => by
  cases b <;> simp only [CT.beq, Bool.and_eq_true, beq_iff_eq, fe0, false_implies, CT.sl.injEq]
  rename_i e' cs'
  exact fun ⟨h1, h2⟩ => ⟨h1, CT.beqs_eq cs cs' h2⟩
 | .osl e cs, b => by
  cases b <;> simp only [CT.beq, Bool.and_eq_true, beq_iff_eq, fe0, false_implies, CT.osl.injEq]
  rename_i e' cs'
  exact fun ⟨h1, h2⟩ => ⟨h1, CT.beqs_eq cs cs' h2⟩
 | .pt cs, b => by
  cases b <;> simp only [CT.beq, fe0, false_implies, CT.pt.injEq]
  rename_i cs'
  exact fun h2 => CT.beqs_eq cs cs' h2
 | .pn cs, b => by
  cases b <;> simp only [CT.beq, fe0, false_implies, CT.pn.injEq]
  rename_i cs'
  exact fun h2 => CT.beqs_eq cs cs' h2
theorem CT.beqs_eq : ∀ a b : List CT, CT.beqs a b = true → a = b
 | [], b => by cases b <;> simp [CT.beqs]
 | x :: xs, b => by
  cases b with
  | nil => simp [CT.beqs]
  | cons y ys =>
   simp only [CT.beqs, Bool.and_eq_true, List.cons.injEq]
   exact fun ⟨h1, h2⟩ => ⟨CT.beq_eq x y h1, CT.beqs_eq xs ys h2⟩
end
inductive D where
 | i (n : Int) | b (x : Bool) | s (x : ByteArray)
 | l (xs : List (List D))
 | p (xs : List D)
 | c (f : FuncId) (cts : List CT) (xs : List D)
 deriving Inhabited
def D.int : D → Int | .i n => n | _ => 0
def D.bool : D → Bool | .b x => x | _ => false
def D.str : D → ByteArray | .s x => x | _ => ByteArray.empty
def D.lst : D → List (List D) | .l xs => xs | _ => []
def D.ptd : D → List D | .p xs => xs | .c _ _ xs => xs | _ => []
def D.isT (t : Nat) : D → Bool | .c f _ _ => f == t | _ => false
@[simp] theorem D.int_i (n : Int) : (D.i n).int = n := rfl
@[simp] theorem D.bool_b (x : Bool) : (D.b x).bool = x := rfl
@[simp] theorem D.str_s (x : ByteArray) : (D.s x).str = x := rfl
@[simp] theorem D.lst_l (xs : List (List D)) : (D.l xs).lst = xs := rfl
@[simp] theorem D.ptd_p (xs : List D) : (D.p xs).ptd = xs := rfl
inductive Rep (w : World) (F : Nat → Prop) : CT → Value → D → Prop where
 | int {k : IntKind} {n : Int} (h : k.min ≤ n ∧ n ≤ k.max) : Rep w F (.int k) (.int k n) (.i n)
 | bool {x : Bool} : Rep w F .bool (.bool x) (.b x)
 | str {s : ByteArray} (h : s.size ≤ maxLen) : Rep w F .str (.string s) (.s s)
 | nil {q : Option Addr} {e : TypeId} {cts : List CT} : Rep w F (.sl e cts) (.slice q 0 0) (.l [])
 | sl {e : TypeId} {cts : List CT} {g o len cap : Nat} {cur : Array Value} {t : TypeId} {fz : Nat × Nat} {xs : List (List D)}
   (hF : F g) (hg : w.heap[g]? = some (.cells cur t fz)) (hl : len ≤ cap) (hm : cap ≤ maxLen) (hc : o + cap * cts.length ≤ cur.size) (hn : xs.length = len)
   (hx : ∀ i, i < len → (xs.getD i []).length = cts.length)
   (hr : ∀ i j ct, i < len → cts[j]? = some ct → Rep w F ct (cur.getD (o + i * cts.length + j) undef) ((xs.getD i []).getD j default)) :
   Rep w F (.sl e cts) (.slice (some ⟨g, o, none⟩) len cap) (.l xs)
 | pt {cts : List CT} {g o : Nat} {cur : Array Value} {t : TypeId} {fz : Nat × Nat} {xs : List D}
   (hF : F g) (hg : w.heap[g]? = some (.cells cur t fz)) (hc : o + cts.length ≤ cur.size) (hn : xs.length = cts.length)
   (hr : ∀ j ct, cts[j]? = some ct → Rep w F ct (cur.getD (o + j) undef) (xs.getD j default)) :
   Rep w F (.pt cts) (.pointer (some ⟨g, o, none⟩)) (.p xs)
 | pnz {cts : List CT} : Rep w F (.pn cts) (.pointer none) (.p [])
 | pns {cts : List CT} {v : Value} {d : D} (h : Rep w F (.pt cts) v d) : Rep w F (.pn cts) v d
 | clo {f : FuncId} {vs : Array Value} {cts : List CT} {xs : List D} (hv : vs.size = cts.length) (hn : xs.length = cts.length)
   (hr : ∀ j ct, cts[j]? = some ct → Rep w F ct (vs.getD j undef) (xs.getD j default)) :
   Rep w F .clo (.func (.func f) #[] vs) (.c f cts xs)
 | ifc {t : TypeId} {vs : Array Value} {cts : List CT} {xs : List D} (hv : vs.size = cts.length) (hn : xs.length = cts.length)
   (hr : ∀ j ct, cts[j]? = some ct → Rep w F ct (vs.getD j undef) (xs.getD j default)) :
   Rep w F .ifc (.iface t (.agg vs)) (.c t cts xs)
theorem Rep.mono {w w' : World} {F F' : Nat → Prop} (hF : ∀ b, F b → F' b) (hw : ∀ b, F b → w'.heap[b]? = w.heap[b]?) {ct : CT} {v : Value} {d : D} (h : Rep w F ct v d) : Rep w' F' ct v d := by
 induction h with
 | int h => exact .int h
 | bool => exact .bool
 | str h => exact .str h
 | nil => exact .nil
 | sl h1 h2 h3 h4 h5 h6 h7 _ ih => exact .sl (hF _ h1) ((hw _ h1).trans h2) h3 h4 h5 h6 h7 ih
 | pt h1 h2 h3 h4 _ ih => exact .pt (hF _ h1) ((hw _ h1).trans h2) h3 h4 ih
 | pnz => exact .pnz
 | pns _ ih => exact .pns ih
 | clo h1 h2 _ ih => exact .clo h1 h2 ih
 | ifc h1 h2 _ ih => exact .ifc h1 h2 ih
theorem Rep.oneCell {w : World} {F : Nat → Prop} {ct : CT} {v : Value} {d : D} (h : Rep w F ct v d) : v.oneCell' = true := by induction h <;> first | rfl | assumption
inductive Wf : CT → D → Prop where
 | int {k : IntKind} {n : Int} (h : k.min ≤ n ∧ n ≤ k.max) : Wf (.int k) (.i n)
 | bool {x : Bool} : Wf .bool (.b x)
 | str {s : ByteArray} (h : s.size ≤ maxLen) : Wf .str (.s s)
 | sl {e : TypeId} {cts : List CT} {xs : List (List D)} (hm : xs.length ≤ maxLen) (hx : ∀ i, i < xs.length → (xs.getD i []).length = cts.length)
   (hr : ∀ i j ct, i < xs.length → cts[j]? = some ct → Wf ct ((xs.getD i []).getD j default)) : Wf (.sl e cts) (.l xs)
 | pt {cts : List CT} {xs : List D} (hn : xs.length = cts.length) (hr : ∀ j ct, cts[j]? = some ct → Wf ct (xs.getD j default)) : Wf (.pt cts) (.p xs)
 | pnz {cts : List CT} : Wf (.pn cts) (.p [])
 | pns {cts : List CT} {d : D} (h : Wf (.pt cts) d) : Wf (.pn cts) d
 | clo {f : FuncId} {cts : List CT} {xs : List D} (hn : xs.length = cts.length) (hr : ∀ j ct, cts[j]? = some ct → Wf ct (xs.getD j default)) : Wf .clo (.c f cts xs)
 | ifc {t : TypeId} {cts : List CT} {xs : List D} (hn : xs.length = cts.length) (hr : ∀ j ct, cts[j]? = some ct → Wf ct (xs.getD j default)) : Wf .ifc (.c t cts xs)
theorem Rep.wf {w : World} {F : Nat → Prop} {ct : CT} {v : Value} {d : D} (h : Rep w F ct v d) : Wf ct d := by
 induction h with
 | int h => exact .int h
 | bool => exact .bool
 | str h => exact .str h
 | nil => exact .sl (by simp) (by simp) (by simp)
 | sl h1 h2 h3 h4 h5 h6 h7 _ ih => exact .sl (by omega) (fun i hi => h7 i (by omega)) (fun i j ct hi => ih i j ct (by omega))
 | pt h1 h2 h3 h4 _ ih => exact .pt h4 ih
 | pnz => exact .pnz
 | pns _ ih => exact .pns ih
 | clo h1 h2 _ ih => exact .clo h2 ih
 | ifc h1 h2 _ ih => exact .ifc h2 ih
inductive Op1 where
 | neg (k : IntKind) | cnv (k : IntKind) | not | len | slen | bytes | tag (t : Nat) | pnn (n : Nat)
 deriving DecidableEq
inductive Op2 where
 | add (k : IntKind) | sub (k : IntKind) | mul (k : IntKind) | quo (k : IntKind) | rem (k : IntKind) | shl (k : IntKind) | shr (k : IntKind)
 | min | max | lt | le | eq | beq | seq | cat | sidx | and (k : IntKind) | or (k : IntKind) | andn (k : IntKind)
 deriving DecidableEq
inductive X where
 | n (z : Int) | t (b : Bool) | str (x : ByteArray)
 | var (i : Nat)
 | nil | cons (h t : X)
 | lnil | lcons (cells rest : X)
 | un (o : Op1) (a : X) | bin (o : Op2) (a b : X) | ite (c a b : X)
 | sel (j : Nat) (s i : X) | sub (s lo hi : X) | snoc (s cells : X) | upd (j : Nat) (s i cells : X) | rep (n cells : X) | nth (cells i : X)
 | app (f : FuncId) (as : X) (j : Nat)
 | dyn (c as : X) (j : Nat)
 | pk (cells : X)
 | psel (j : Nat) (p : X)
 | clo (f : FuncId) (cts : List CT) (as : X)
def Op1.ev : Op1 → D → D
 | .neg k, a => .i (k.wrap (0 - a.int))
 | .cnv k, a => .i (k.wrap a.int)
 | .not, a => .b (!a.bool)
 | .len, a => .i a.lst.length
 | .slen, a => .i a.str.size
 | .tag t, a => .b (a.isT t)
 | .pnn n, a => .b (a.ptd.length == n)
 | .bytes, a => .l (a.str.data.toList.map fun b => [.i (b.toNat : Int)])
def Op2.ev : Op2 → D → D → D
 | .add k, a, b => .i (k.wrap (a.int + b.int))
 | .sub k, a, b => .i (k.wrap (a.int - b.int))
 | .mul k, a, b => .i (k.wrap (a.int * b.int))
 | .quo k, a, b => .i (k.wrap (a.int.tdiv b.int))
 | .rem _, a, b => .i (a.int.tmod b.int)
 | .shl k, a, b => .i (k.wrap (a.int * 2 ^ (Nat.min b.int.toNat k.bits)))
 | .shr k, a, b => .i (a.int.fdiv (2 ^ (Nat.min b.int.toNat k.bits)))
 | .min, a, b => .i (if b.int < a.int then b.int else a.int)
 | .max, a, b => .i (if b.int > a.int then b.int else a.int)
 | .lt, a, b => .b (decide (a.int < b.int))
 | .le, a, b => .b (decide (a.int ≤ b.int))
 | .eq, a, b => .b (a.int == b.int)
 | .beq, a, b => .b (a.bool == b.bool)
 | .seq, a, b => .b (a.str == b.str)
 | .cat, a, b => .l (a.lst ++ b.lst)
 | .and k, a, b => .i (k.wrap (BitVec.ofInt k.bits a.int &&& BitVec.ofInt k.bits b.int).toNat)
 | .sidx, a, b => .i ((a.str[b.int.toNat]?).getD 0).toNat
 | .or k, a, b => .i (k.wrap (BitVec.ofInt k.bits a.int ||| BitVec.ofInt k.bits b.int).toNat)
 | .andn k, a, b => .i (k.wrap (BitVec.ofInt k.bits a.int &&& ~~~BitVec.ofInt k.bits b.int).toNat)
def splice (e : List D) (j : Nat) (cs : List D) : List D := e.take j ++ cs ++ e.drop (j + cs.length)
section
variable (Φ : FuncId → List D → List D) (ρ : List D)
mutual
def X.d : X → D
 | .n z => .i z
 | .t b => .b b
 | .str x => .s x
 | .var i => ρ.getD i default
 | .nil => default
 | .cons _ _ => default
 | .lnil => .l []
 | .lcons c r => .l (X.ds c :: (X.d r).lst)
 | .un o a => o.ev (X.d a)
 | .bin o a b => o.ev (X.d a) (X.d b)
 | .ite c a b => if (X.d c).bool = true then X.d a else X.d b
 | .sel j s i => ((X.d s).lst.getD (X.d i).int.toNat []).getD j default
 | .sub s lo hi => .l (((X.d s).lst.take (X.d hi).int.toNat).drop (X.d lo).int.toNat)
 | .snoc s cs => .l ((X.d s).lst ++ [X.ds cs])
 | .upd j s i cs => .l ((X.d s).lst.set (X.d i).int.toNat (splice ((X.d s).lst.getD (X.d i).int.toNat []) j (X.ds cs)))
 | .rep m cs => .l (List.replicate (X.d m).int.toNat (X.ds cs))
 | .nth cs i => (X.ds cs).getD (X.d i).int.toNat default
 | .app f as j => (Φ f (X.ds as)).getD j default
 | .dyn c as j => match X.d c with
  | .c f _ xs => (Φ f (X.ds as ++ xs)).getD j default
  | _ => default
 | .pk cs => .p (X.ds cs)
 | .psel j p => (X.d p).ptd.getD j default
 | .clo f cts as => .c f cts (X.ds as)
def X.ds : X → List D
 | .cons hd tl => X.d hd :: X.ds tl
 | _ => []
end
end
def X.beq : X → X → Bool
 | .n a, .n b => a == b
 | .t a, .t b => a == b
 | .str a, .str b => decide (a = b)
 | .var a, .var b => a == b
 | .nil, .nil => true
 | .lnil, .lnil => true
 | .cons a a', .cons b b' => X.beq a b && X.beq a' b'
 | .lcons a a', .lcons b b' => X.beq a b && X.beq a' b'
 | .un o a, .un o' b => decide (o = o') && X.beq a b
 | .bin o a a', .bin o' b b' => decide (o = o') && X.beq a b && X.beq a' b'
 | .ite a a' a'', .ite b b' b'' => X.beq a b && X.beq a' b' && X.beq a'' b''
 | .sel j a a', .sel k b b' => j == k && X.beq a b && X.beq a' b'
 | .sub a a' a'', .sub b b' b'' => X.beq a b && X.beq a' b' && X.beq a'' b''
 | .snoc a a', .snoc b b' => X.beq a b && X.beq a' b'
 | .upd j a a' a'', .upd k b b' b'' => j == k && X.beq a b && X.beq a' b' && X.beq a'' b''
 | .rep a a', .rep b b' => X.beq a b && X.beq a' b'
 | .nth a a', .nth b b' => X.beq a b && X.beq a' b'
 | .app f a j, .app g b k => f == g && X.beq a b && j == k
 | .dyn c a j, .dyn c' b k => X.beq c c' && X.beq a b && j == k
 | .pk a, .pk b => X.beq a b
 | .psel j a, .psel k b => j == k && X.beq a b
 | .clo f cts a, .clo g cts' b => f == g && CT.beqs cts cts' && X.beq a b
 | _, _ => false
theorem X.beq_eq : ∀ a b : X, X.beq a b = true → a = b := by
 intro a
 induction a <;> intro b <;> cases b <;> simp only [X.beq, fe0, false_implies, Bool.and_eq_true, beq_iff_eq, decide_eq_true_eq, X.n.injEq, X.t.injEq, X.str.injEq, X.var.injEq, X.cons.injEq, X.lcons.injEq, X.un.injEq, X.bin.injEq, X.ite.injEq, X.sel.injEq, X.sub.injEq, X.snoc.injEq, X.upd.injEq, X.rep.injEq, X.nth.injEq, X.app.injEq, X.dyn.injEq, X.pk.injEq, X.psel.injEq, X.clo.injEq, imp_self] <;> intro h
 case cons.cons h1 h2 _ _ => exact ⟨h1 _ h.1, h2 _ h.2⟩
 case lcons.lcons h1 h2 _ _ => exact ⟨h1 _ h.1, h2 _ h.2⟩
 case un.un h1 _ _ => exact ⟨h.1, h1 _ h.2⟩
 case bin.bin h1 h2 _ _ _ => exact ⟨h.1.1, h1 _ h.1.2, h2 _ h.2⟩
 case ite.ite h1 h2 h3 _ _ _ => exact ⟨h1 _ h.1.1, h2 _ h.1.2, h3 _ h.2⟩
 case sel.sel h1 h2 _ _ _ => exact ⟨h.1.1, h1 _ h.1.2, h2 _ h.2⟩
 case sub.sub h1 h2 h3 _ _ _ => exact ⟨h1 _ h.1.1, h2 _ h.1.2, h3 _ h.2⟩
 case snoc.snoc h1 h2 _ _ => exact ⟨h1 _ h.1, h2 _ h.2⟩
 case upd.upd h1 h2 h3 _ _ _ _ => exact ⟨h.1.1.1, h1 _ h.1.1.2, h2 _ h.1.2, h3 _ h.2⟩
 case rep.rep h1 h2 _ _ => exact ⟨h1 _ h.1, h2 _ h.2⟩
 case nth.nth h1 h2 _ _ => exact ⟨h1 _ h.1, h2 _ h.2⟩
 case app.app h1 _ _ _ => exact ⟨h.1.1, h1 _ h.1.2, h.2⟩
 case dyn.dyn h1 h2 _ _ _ => exact ⟨h1 _ h.1.1, h2 _ h.1.2, h.2⟩
 case pk.pk h1 _ => exact h1 _ h
 case psel.psel h1 _ _ => exact ⟨h.1, h1 _ h.2⟩
 case clo.clo h1 _ _ _ => exact ⟨h.1.1, CT.beqs_eq _ _ h.1.2, h1 _ h.2⟩
end Go.RV
namespace Go.RV
open Go.RowKit
def X.under (n : Nat) : X → Bool
 | .var i => Nat.blt i n
 | .n _ | .t _ | .str _ | .nil | .lnil => true
 | .cons a b | .lcons a b | .snoc a b | .rep a b | .nth a b => X.under n a && X.under n b
 | .un _ a | .pk a | .psel _ a | .clo _ _ a | .app _ a _ => X.under n a
 | .bin _ a b | .sel _ a b | .dyn a b _ => X.under n a && X.under n b
 | .ite a b c | .sub a b c | .upd _ a b c => X.under n a && X.under n b && X.under n c
def takeD : Nat → List D → List D
 | 0, _ => []
 | k + 1, [] => default :: takeD k []
 | k + 1, x :: xs => x :: takeD k xs
@[simp] theorem takeD_zero (l : List D) : takeD 0 l = [] := by cases l <;> rfl
@[simp] theorem takeD_cons (k : Nat) (x : D) (xs : List D) : takeD (k + 1) (x :: xs) = x :: takeD k xs := rfl
@[simp] theorem takeD_length : ∀ (k : Nat) (l : List D), (takeD k l).length = k
 | 0, l => by simp
 | k + 1, [] => by simp [takeD, takeD_length k []]
 | k + 1, x :: xs => by simp [takeD, takeD_length k xs]
theorem takeD_get : ∀ (k : Nat) (l : List D) (j : Nat), j < k → (takeD k l).getD j default = l.getD j default
 | k + 1, [], 0, _ => rfl
 | k + 1, [], j + 1, h => by
  have := takeD_get k [] j (by omega)
  simpa [takeD] using this
 | k + 1, x :: xs, 0, _ => rfl
 | k + 1, x :: xs, j + 1, h => by
  have := takeD_get k xs j (by omega)
  simpa [takeD] using this
def X.outs (Φ : FuncId → List D → List D) (ρ : List D) : X → List D
 | .app f as _ => Φ f (as.ds Φ ρ)
 | .dyn c as _ => match c.d Φ ρ with
  | .c f _ xs => Φ f (as.ds Φ ρ ++ xs)
  | _ => []
 | e => [e.d Φ ρ]
def X.repl (e : X) (c : X) (n k : Nat) : X := match e with
 | .app f as j => if Nat.blt j k && X.beq (.app f as 0) c then .var (n + j) else .app f (X.repl as c n k) j
 | .dyn d as j => if Nat.blt j k && X.beq (.dyn d as 0) c then .var (n + j) else .dyn (X.repl d c n k) (X.repl as c n k) j
 | .var i => .var i
 | .n z => .n z
 | .t b => .t b
 | .str s => .str s
 | .nil => .nil
 | .lnil => .lnil
 | .cons a b => .cons (X.repl a c n k) (X.repl b c n k)
 | .lcons a b => .lcons (X.repl a c n k) (X.repl b c n k)
 | .snoc a b => .snoc (X.repl a c n k) (X.repl b c n k)
 | .rep a b => .rep (X.repl a c n k) (X.repl b c n k)
 | .nth a b => .nth (X.repl a c n k) (X.repl b c n k)
 | .un o a => .un o (X.repl a c n k)
 | .pk a => .pk (X.repl a c n k)
 | .psel j a => .psel j (X.repl a c n k)
 | .clo f cts a => .clo f cts (X.repl a c n k)
 | .bin o a b => .bin o (X.repl a c n k) (X.repl b c n k)
 | .sel j a b => .sel j (X.repl a c n k) (X.repl b c n k)
 | .ite a b d => .ite (X.repl a c n k) (X.repl b c n k) (X.repl d c n k)
 | .sub a b d => .sub (X.repl a c n k) (X.repl b c n k) (X.repl d c n k)
 | .upd j a b d => .upd j (X.repl a c n k) (X.repl b c n k) (X.repl d c n k)
section
variable {Φ : FuncId → List D → List D} {ρ : List D} {n k : Nat} {c : X}
theorem repl_var (hn : n = ρ.length) {out : List D} {j : Nat} (hj : j < k) : (X.var (n + j)).d Φ (ρ ++ takeD k out) = out.getD j default := by
 simp only [X.d, hn, List.getD]
 rw [List.getElem?_append_right (by omega)]
 have := takeD_get k out j hj
 simp only [List.getD] at this
 rw [← this]
 congr 2
 omega
theorem X.repl_d (hn : n = ρ.length) : ∀ e : X, e.under n = true → (e.repl c n k).d Φ (ρ ++ takeD k (c.outs Φ ρ)) = e.d Φ ρ ∧ (e.repl c n k).ds Φ (ρ ++ takeD k (c.outs Φ ρ)) = e.ds Φ ρ := by
 intro e
 induction e with
 | n z => exact fun _ => ⟨rfl, rfl⟩
 | t b => exact fun _ => ⟨rfl, rfl⟩
 | str s => exact fun _ => ⟨rfl, rfl⟩
 | nil => exact fun _ => ⟨rfl, rfl⟩
 | lnil => exact fun _ => ⟨rfl, rfl⟩
 | var i =>
  intro h
  refine ⟨?_, rfl⟩
  have hi : i < ρ.length := by rw [← hn]; simpa [X.under] using h
  simp only [X.repl, X.d, List.getD]
  rw [List.getElem?_append_left hi]
 | cons a b iha ihb =>
  intro h
  simp only [X.under, Bool.and_eq_true] at h
  exact ⟨rfl, by simp only [X.repl, X.ds, (iha h.1).1, (ihb h.2).2]⟩
 | lcons a b iha ihb =>
  intro h
  simp only [X.under, Bool.and_eq_true] at h
  exact ⟨by simp only [X.repl, X.d, (iha h.1).2, (ihb h.2).1], rfl⟩
 | un o a iha =>
  intro h
  exact ⟨by simp only [X.repl, X.d, (iha h).1], rfl⟩
 | bin o a b iha ihb =>
  intro h
  simp only [X.under, Bool.and_eq_true] at h
  exact ⟨by simp only [X.repl, X.d, (iha h.1).1, (ihb h.2).1], rfl⟩
 | ite a b d iha ihb ihd =>
  intro h
  simp only [X.under, Bool.and_eq_true] at h
  exact ⟨by simp only [X.repl, X.d, (iha h.1.1).1, (ihb h.1.2).1, (ihd h.2).1], rfl⟩
 | sel j a b iha ihb =>
  intro h
  simp only [X.under, Bool.and_eq_true] at h
  exact ⟨by simp only [X.repl, X.d, (iha h.1).1, (ihb h.2).1], rfl⟩
 | sub a b d iha ihb ihd =>
  intro h
  simp only [X.under, Bool.and_eq_true] at h
  exact ⟨by simp only [X.repl, X.d, (iha h.1.1).1, (ihb h.1.2).1, (ihd h.2).1], rfl⟩
 | snoc a b iha ihb =>
  intro h
  simp only [X.under, Bool.and_eq_true] at h
  exact ⟨by simp only [X.repl, X.d, (iha h.1).1, (ihb h.2).2], rfl⟩
 | upd j a b d iha ihb ihd =>
  intro h
  simp only [X.under, Bool.and_eq_true] at h
  exact ⟨by simp only [X.repl, X.d, (iha h.1.1).1, (ihb h.1.2).1, (ihd h.2).2], rfl⟩
 | rep a b iha ihb =>
  intro h
  simp only [X.under, Bool.and_eq_true] at h
  exact ⟨by simp only [X.repl, X.d, (iha h.1).1, (ihb h.2).2], rfl⟩
 | nth a b iha ihb =>
  intro h
  simp only [X.under, Bool.and_eq_true] at h
  exact ⟨by simp only [X.repl, X.d, (iha h.1).2, (ihb h.2).1], rfl⟩
 | app f as j iha =>
  intro h
  have ha := (iha h).2
  unfold X.repl
  split
  ·rename_i hc
   simp only [Bool.and_eq_true] at hc
   have hj : j < k := by simpa using hc.1
   have e := X.beq_eq _ _ hc.2
   subst e
   exact ⟨by rw [repl_var hn hj]; rfl, rfl⟩
  ·exact ⟨by simp only [X.d, ha], rfl⟩
 | dyn d as j ihd iha =>
  intro h
  simp only [X.under, Bool.and_eq_true] at h
  have hd := (ihd h.1).1
  have ha := (iha h.2).2
  unfold X.repl
  split
  ·rename_i hc
   simp only [Bool.and_eq_true] at hc
   have hj : j < k := by simpa using hc.1
   have e := X.beq_eq _ _ hc.2
   subst e
   refine ⟨?_, rfl⟩
   rw [repl_var hn hj]
   simp only [X.outs, X.d]
   cases X.d Φ ρ d <;> simp
  ·exact ⟨by simp only [X.d, hd, ha], rfl⟩
 | pk a iha =>
  intro h
  exact ⟨by simp only [X.repl, X.d, (iha h).2], rfl⟩
 | psel j a iha =>
  intro h
  exact ⟨by simp only [X.repl, X.d, (iha h).1], rfl⟩
 | clo f t a iha =>
  intro h
  exact ⟨by simp only [X.repl, X.d, (iha h).2], rfl⟩
end
end Go.RV
namespace Go.RV
open Go.RowKit
inductive SC where
 | x (ct : CT) (e : X)
 | ptr (r off : Nat)
 | ea (e : TypeId) (cts : List CT) (s i : X) (off : Nat)
 | pa (cts : List CT) (p : X) (off : Nat)
 | row (r ver : Nat)
 | ra (r ver n : Nat) (i : X) (off : Nat)
 | da (r base n : Nat) (i : X)
 | dr (r base n k : Nat) (i : X)
 | pdr (cts : List CT) (p : X) (base n k : Nat) (i : X)
 | fn (f : FuncId) (caps : List (Nat × Nat))
 | cst (v : Value)
 | any
inductive SV where
 | c (s : SC) | agg (cs : List SC) | tup (vs : List (Bool × List SC)) | grd (g : X) (s : SV) | und | any
inductive RK where
 | box (ety : TypeId) (cells : List SC) (frz : Bool)
 | row (ety : TypeId) (cts : List CT) (content : X) (ver : Nat) (frz : Bool)
structure Res where
 g : X
 k : RK
structure St where
 slots : List SV
 res : List (Option Res)
def SC.beq : SC → SC → Bool
 | .x ct e, .x ct' e' => CT.beq ct ct' && X.beq e e'
 | .ptr r o, .ptr r' o' => r == r' && o == o'
 | _, _ => false
def SC.beqs : List SC → List SC → Bool
 | [], [] => true
 | a :: as, b :: bs => SC.beq a b && SC.beqs as bs
 | _, _ => false
def tt : X := .t true
def isTt : X → Bool | .t b => b | _ => false
def notX (e : X) : X := .un .not e
def andX (a b : X) : X := if isTt a then b else if isTt b then a else .ite a b (.t false)
def leX (a b : X) : X := .bin .le a b
def ltX (a b : X) : X := .bin .lt a b
def constSC : Value → SC
 | .int k n => if k.min ≤ n ∧ n ≤ k.max then .x (.int k) (.n n) else .any
 | .bool b => .x .bool (.t b)
 | .string s => if s.size ≤ maxLen then .x .str (.str s) else .any
 | v => if v.oneCell' then .cst v else .any
def constSV : Value → SV
 | .agg cs => .agg (cs.toList.map constSC)
 | .tuple _ => .any
 | v => .c (constSC v)
def entails (g : X) : X → Bool
 | .ite a b c => X.beq (.ite a b c) g || isTt g || (X.beq c (.t false) && (entails g a || entails g b))
 | G => X.beq G g || isTt g
def strip (G : X) : SV → SV
 | .grd g s => if entails g G then strip G s else .grd g s
 | s => s
def St.opd (σ : St) : Operand → SV
 | .tmp t => σ.slots.getD t .und
 | .const v => constSV v
 | .global _ => .any
 | .func f => .c (.fn f [])
def guardX (want : Bool) : SV → Option X
 | .c (.x .bool (.t b)) => some (.t (b == want))
 | .c (.x .bool e) => some (if want then e else notX e)
 | .grd g (.c (.x .bool e)) => some (andX g (if want then e else notX e))
 | .und => some (.t false)
 | _ => none
inductive Nd where
 | c (x : X)
 | pre (f : FuncId) (as : X)
 | pg (g : X) (f : FuncId) (as : X)
 | ct (g : X) (cts : List CT) (e : X)
structure EO where
 val : SV
 wr : List (Nat × Res)
 nd : List Nd
inductive RM where
 | fail
 | done (eo : EO)
 | res (r : Nat) (k : Res → RM)
def RM.run (rs : List (Option Res)) : RM → Option EO
 | .fail => none
 | .done eo => some eo
 | .res r k => match rs.getD r none with
  | some R => (k R).run rs
  | none => none
def RM.reads (rs : List (Option Res)) : RM → List Nat
 | .fail => []
 | .done _ => []
 | .res r k => r :: match rs.getD r none with
  | some R => (k R).reads rs
  | none => []
def RM.val (v : Option SV) (nd : List Nd) : RM := match v with
 | some s => .done ⟨s, [], nd⟩
 | none => .fail
def consX : List X → X
 | [] => .nil
 | a :: as => .cons a (consX as)
inductive EK where
 | normal | exit (id : Nat) | ret
 deriving DecidableEq
structure LoopSig where
 key : FuncId
 nils : List (Nat × Option Nat × TypeId)
 head : St
 nv : Nat
 wv : List Nat
 ws : List Nat
 exits : List EK
 hv : List Nat
def padSt (σ : St) (n : Nat) : St := ⟨σ.slots, σ.res ++ List.replicate (n - σ.res.length) none⟩
def nilRowAt (hd : St) (p : Nat × Option Nat) : Nat := match p with
 | (n, none) => match hd.slots.getD n .und with
  | .c (.row r _) => r
  | _ => 0
 | (b, some off) => match hd.res.getD b none with
  | some ⟨_, .box _ cells _⟩ => match cells[off]? with
   | some (.row r _) => r
   | _ => 0
  | _ => 0
def nilAt (σ : St) (p : Nat × Option Nat) (e : TypeId) (cts : List CT) : Option St :=
 let r := σ.res.length
 match p with
 | (n, none) => match σ.slots.getD n .und with
  | .c (.cst (.slice none 0 0)) => some ⟨σ.slots.set n (.c (.row r 1)), σ.res ++ [some ⟨tt, .row e cts .lnil 1 false⟩]⟩
  | .c (.row _ _) => some σ
  | _ => none
 | (b, some off) => match σ.res.getD b none with
  | some ⟨g, .box ety cells false⟩ => match cells[off]? with
   | some (.cst (.slice none 0 0)) => if isTt g then some ⟨σ.slots, (σ.res.set b (some ⟨g, .box ety (cells.set off (.row r 1)) false⟩)) ++ [some ⟨tt, .row e cts .lnil 1 false⟩]⟩ else none
   | _ => none
  | _ => none
def listed (hs : List (Option Res)) (r : Nat) : Bool := (hs.getD r none).isSome
section
variable (hs rs : List (Option Res))
def matchSC : SC → SC → Option (List (Nat × X))
 | .any, _ => some []
 | .x (.sl _ _) (.var i), .cst (.slice none 0 0) => some [(i, .lnil)]
 | .x (.pn _) (.var i), .cst (.pointer none) => some [(i, .pk .nil)]
 | .x ct (.var i), .x ct' e => if CT.beq ct ct' then some [(i, e)] else none
 | .ptr r off, .ptr r' off' => if r == r' && off == off' && listed hs r then some [] else none
 | .fn f caps, .fn f' caps' => if f == f' && caps == caps' && caps.all (fun c => listed hs c.1) then some [] else none
 | .row r one, .row r' ver => if r == r' && one == 1 && listed hs r then match rs.getD r none with
  | some ⟨_, .row _ _ _ ver' _⟩ => if ver == ver' then some [] else none
  | _ => none
  else none
 | .ra r one m (.var i) off, .ra r' ver m' e off' => if r == r' && one == 1 && m == m' && off == off' && listed hs r then match rs.getD r none with
  | some ⟨_, .row _ _ _ ver' _⟩ => if ver == ver' then some [(i, e)] else none
  | _ => none
  else none
 | _, _ => none
def matchSCs : List SC → List SC → Option (List (Nat × X))
 | [], [] => some []
 | a :: as, b :: bs => match matchSC hs rs a b, matchSCs as bs with
  | some l, some m => some (l ++ m)
  | _, _ => none
 | _, _ => none
def matchSV : SV → SV → Option (List (Nat × X))
 | .any, _ => some []
 | .c a, .c b => matchSC hs rs a b
 | .agg as, .agg bs => matchSCs hs rs as bs
 | _, _ => none
def matchSVs : List SV → List SV → Option (List (Nat × X))
 | [], [] => some []
 | a :: as, b :: bs => match matchSV hs rs a b, matchSVs as bs with
  | some l, some m => some (l ++ m)
  | _, _ => none
 | _, _ => none
def matchRK : RK → RK → Option (List (Nat × X))
 | .box e cs z, .box e' cs' z' => if e == e' && z == z' then matchSCs hs rs cs cs' else none
 | .row e cts (.var i) one z, .row e' cts' x _ z' => if e == e' && CT.beqs cts cts' && z == z' && one == 1 then some [(i, x)] else none
 | _, _ => none
def matchRess : List (Option Res) → List (Option Res) → Option (List (Nat × X))
 | [], _ => some []
 | none :: as, _ :: bs => matchRess as bs
 | some a :: as, some b :: bs => if isTt a.g && isTt b.g then match matchRK hs rs a.k b.k, matchRess as bs with
  | some l, some m => some (l ++ m)
  | _, _ => none
  else none
 | _, _ => none
end
def look (l : List (Nat × X)) (i : Nat) : Option X := match l with
 | [] => none
 | p :: ps => if p.1 == i then some p.2 else look ps i
def looks (l : List (Nat × X)) : (i n : Nat) → Option (List X)
 | _, 0 => some []
 | i, n + 1 => match look l i, looks l (i + 1) n with
  | some x, some xs => some (x :: xs)
  | _, _ => none
def oneEach (l : List (Nat × X)) : Bool := match l with
 | [] => true
 | p :: ps => ps.all (fun q => !(q.1 == p.1)) && oneEach ps
def matchHead (hd : St) (nv : Nat) (σ : St) : Option (List X) := match matchSVs hd.res σ.res hd.slots σ.slots, matchRess hd.res σ.res hd.res σ.res with
 | some l, some m => if oneEach (l ++ m) && (l ++ m).all (fun p => Nat.blt p.1 nv) then looks (l ++ m) 0 nv else none
 | _, _ => none
def instSC (sub : Nat → X) (vers : Nat → Nat) : SC → SC
 | .x ct (.var i) => .x ct (sub i)
 | .row r _ => .row r (vers r)
 | .ra .. => .any
 | s => s
def instSV (sub : Nat → X) (vers : Nat → Nat) : SV → SV
 | .c s => .c (instSC sub vers s)
 | .agg cs => .agg (cs.map (instSC sub vers))
 | s => s
def instRK (sub : Nat → X) (vers : Nat → Nat) (r : Nat) : RK → RK
 | .box e cs z => .box e (cs.map (instSC sub vers)) z
 | .row e cts (.var i) _ z => .row e cts (sub i) (vers r) z
 | k => k
def zipSlots (ws : List Nat) (f : SV → SV) : (n : Nat) → List SV → List SV → List SV
 | n, a :: as, b :: bs => (if ws.contains n then f a else b) :: zipSlots ws f (n + 1) as bs
 | _, _, bs => bs
def zipRes (f : Nat → RK → RK) : (r : Nat) → List (Option Res) → List (Option Res) → List (Option Res)
 | r, some a :: as, _ :: bs => some ⟨tt, f r a.k⟩ :: zipRes f (r + 1) as bs
 | r, none :: as, b :: bs => b :: zipRes f (r + 1) as bs
 | _, _, bs => bs
def posIn (i : Nat) : List Nat → Option Nat
 | [] => none
 | j :: js => if j == i then some 0 else (posIn i js).map (· + 1)
def versOf (L : LoopSig) (σ : St) (r : Nat) : Nat := match L.head.res.getD r none, σ.res.getD r none with
 | some ⟨_, .row _ _ (.var i) _ _⟩, some ⟨_, .row _ _ _ ver _⟩ => if L.hv.contains i then ver + 1 else ver
 | _, _ => 0
def subOf (L : LoopSig) (args : List X) (i : Nat) : X := match posIn i L.wv with
 | some j => .app L.key (consX args) (j + 1)
 | none => args.getD i .nil
def afterLoop (L : LoopSig) (args : List X) (σ : St) : St :=
 ⟨zipSlots L.ws (instSV (subOf L args) (versOf L σ)) 0 L.head.slots σ.slots, zipRes (instRK (subOf L args) (versOf L σ)) 0 L.head.res σ.res⟩
structure Sig where
 ps : List (Bool × List CT)
 rs : List (Bool × List CT)
 pc : List (LoopSig × Nat)
 w : Option Nat
section
variable (P : Program)
def sizeT (t : TypeId) : Option Nat := (P.info? t).map (·.size)
def aggT (t : TypeId) : Option Bool := (P.underlying t).map fun | .struct _ | .array _ _ => true | _ => false
def cellsOf : SV → Option (List SC)
 | .c s => some [s]
 | .agg cs => some cs
 | _ => none
def mkVal (ag : Bool) (cs : List SC) : Option SV := if ag then some (.agg cs) else match cs with
 | [c] => some (.c c)
 | _ => none
def dataCells (cts : List CT) (mk : Nat → X) : (off n : Nat) → List SC
 | _, 0 => []
 | off, n + 1 => .x (cts.getD off .bool) (mk off) :: dataCells cts mk (off + 1) n
def cellsData : List CT → List SC → Option (List X)
 | [], _ => some []
 | ct :: cts, .x ct' e :: cs => if CT.beq ct' ct then (cellsData cts cs).map (e :: ·) else none
 | .sl _ _ :: cts, .cst (.slice none 0 0) :: cs => (cellsData cts cs).map (.lnil :: ·)
 | _, _ => none
def setRange (l : List SC) (off : Nat) (cs : List SC) : List SC := l.take off ++ cs ++ l.drop (off + cs.length)
def noAny : List SC → Bool
 | [] => true
 | .any :: _ => false
 | _ :: cs => noAny cs
def zeroCells (t : TypeId) : Option (List SC) := match (P.info? t).bind (·.zero) with
 | some v => cellsOf (constSV v)
 | none => none
def sizeEq (t : TypeId) (n : Nat) : Bool := match sizeT P t with | some m => m == n | none => false
def ctsT : (fuel : Nat) → TypeId → Option (List CT)
 | 0, _ => none
 | fuel + 1, t => match P.underlying t with
  | some (.int k) => some [.int k]
  | some .bool => some [.bool]
  | some .string => some [.str]
  | some (.slice e) => (ctsT fuel e).map fun cts => [.sl e cts]
  | some (.struct fs) => fs.toList.foldr (fun f acc => match ctsT fuel f.type, acc with | some a, some b => some (a ++ b) | _, _ => none) (some [])
  | some (.array n e) => (ctsT fuel e).map fun cts => (List.replicate n cts).flatten
  | some (.func _ _ _) => some [.clo]
  | some (.interface _) => some [.ifc]
  | _ => none
def effLoad (G : X) (t : TypeId) (a : SV) : RM := match sizeT P t, aggT P t with
 | some n, some ag => match a with
  | .c (.ptr r off) => .res r fun R => match R.k with
   | .box _ cells _ => if entails R.g G && Nat.ble (off + n) cells.length then .val (mkVal ag ((cells.drop off).take n)) [] else .fail
   | .row .. => .fail
  | .c (.ea _ cts s i off) => if Nat.ble (off + n) cts.length then .val (mkVal ag (dataCells cts (fun j => .sel j s i) off n)) [] else .fail
  | .c (.x (.pt cts) p) => if Nat.ble n cts.length then .val (mkVal ag (dataCells cts (fun j => .psel j p) 0 n)) [] else .fail
  | .c (.pa cts p off) => if Nat.ble (off + n) cts.length then .val (mkVal ag (dataCells cts (fun j => .psel j p) off n)) [] else .fail
  | .c (.ra r ver m i off) => .res r fun R => match R.k with
   | .row _ cts content ver' _ => if entails R.g G && ver == ver' && m == cts.length && Nat.ble (off + n) cts.length then .val (mkVal ag (dataCells cts (fun j => .sel j content i) off n)) [] else .fail
   | .box .. => .fail
  | .c (.da r base m i) => .res r fun R => match R.k with
   | .box _ cells _ => match (cells.drop base).take m with
    | .x ct e :: rest => match cellsData (List.replicate m ct) (.x ct e :: rest) with
     | some xs => if entails R.g G && n == 1 && !ag && xs.length == m then .done ⟨.c (.x ct (.nth (consX xs) i)), [], []⟩ else .fail
     | none => .fail
    | _ => .fail
   | .row .. => .fail
  | .c (.pdr cts p base m k i) => match (cts.drop base).take m with
   | ct :: rest => if n == 1 && !ag && k == 1 && rest.all (CT.beq ct) && Nat.ble (base + m) cts.length then .done ⟨.c (.x ct (.nth (consX ((List.range m).map fun j => .psel (base + j) p)) i)), [], []⟩ else .fail
   | _ => .fail
  | _ => .fail
 | _, _ => .fail
def frzArg (G : X) : CT → SC → (X → RM) → RM
 | .sl e cts, .row r ver, k => .res r fun R => match R.k with
  | .row ety cts' content ver' true => if entails R.g G && ety == e && CT.beqs cts' cts && ver == ver' then k content else .fail
  | _ => .fail
 | .sl _ _, .cst (.slice none 0 0), k => k .lnil
 | ct, .x ct' e, k => if CT.beq ct' ct then k e else .fail
 | _, _, _ => .fail
def frzArgs (G : X) : List CT → List SC → (List X → RM) → RM
 | [], [], k => k []
 | ct :: cts, c :: cs, k => frzArg G ct c fun e => frzArgs G cts cs fun es => k (e :: es)
 | _, _, _ => .fail
def iteCells (ct : CT) (e i : X) : Nat → List SC → Option (List SC)
 | _, [] => some []
 | j, .x ct' e' :: cs => if CT.beq ct' ct then (iteCells ct e i (j + 1) cs).map (.x ct (.ite (.bin .eq i (.n j)) e e') :: ·) else none
 | _, _ => none
def effStore (G : X) (t : TypeId) (a v : SV) : RM := match cellsOf v, a with
 | some cs, .c (.ptr r off) => .res r fun R => match R.k with
  | .box ety cells frz =>
   if isTt G && isTt R.g && !frz && sizeEq P t cs.length && Nat.ble (off + cs.length) cells.length && noAny cs then
    let cells' := setRange cells off cs
    .done ⟨.und, if SC.beqs cells' cells then [] else [(r, ⟨R.g, .box ety cells' frz⟩)], []⟩
   else .fail
  | .row .. => .fail
 | some cs, .c (.ra r ver m i off) => if noAny cs then .res r fun R => match R.k with
  | .row ety cts content ver' frz => frzArgs G ((cts.drop off).take cs.length) cs fun xs =>
    if isTt G && isTt R.g && !frz && ver == ver' && m == cts.length && sizeEq P t cs.length && Nat.ble (off + cs.length) cts.length then
     .done ⟨.und, [(r, ⟨R.g, .row ety cts (.upd off content i (consX xs)) ver' frz⟩)], []⟩
    else .fail
  | .box .. => .fail
  else .fail
 | some cs, .c (.da r base m i) => match cs with
  | [.x ct e] => .res r fun R => match R.k with
   | .box ety cells frz => match iteCells ct e i 0 ((cells.drop base).take m) with
    | some cs' => if isTt G && isTt R.g && !frz && sizeEq P t 1 && Nat.ble (base + m) cells.length then .done ⟨.und, [(r, ⟨R.g, .box ety (setRange cells base cs') frz⟩)], []⟩ else .fail
    | none => .fail
   | .row .. => .fail
  | _ => .fail
 | _, _ => .fail
def addOff (k : Nat) : SV → Option SV
 | .c (.ptr r off) => some (.c (.ptr r (off + k)))
 | .c (.ea e cts s i off) => some (.c (.ea e cts s i (off + k)))
 | .c (.x (.pt cts) p) => some (.c (.pa cts p k))
 | .c (.pa cts p off) => some (.c (.pa cts p (off + k)))
 | .c (.ra r ver n i off) => some (.c (.ra r ver n i (off + k)))
 | _ => none
def effFieldAddr (s : TypeId) (a : SV) (f : Nat) : RM := match P.underlying s with
 | some (.struct fs) => match fs[f]? with
  | some fd => match sizeT P fd.type with
   | some (_ + 1) => .val (addOff fd.offset a) []
   | _ => .fail
  | none => .fail
 | _ => .fail
def effField (t : TypeId) (a : SV) (f : Nat) : RM := match P.underlying t with
 | some (.struct fs) => match fs[f]? with
  | some fd => match sizeT P fd.type, aggT P fd.type, a with
   | some n, some ag, .agg cs => if Nat.ble (fd.offset + n) cs.length then .val (mkVal ag ((cs.drop fd.offset).take n)) [] else .fail
   | _, _, _ => .fail
  | none => .fail
 | _ => .fail
def inRange (i n : X) : List Nd := [.c (leX (.n 0) i), .c (ltX i n)]
def effIndexAddr (G : X) (t : TypeId) (a i : SV) : RM := match i with
 | .c (.x (.int _) ie) => match P.underlying t with
  | some (.slice el) => match a with
   | .c (.x (.sl e cts) s) => if sizeEq P el cts.length then .done ⟨.c (.ea e cts s ie 0), [], inRange ie (.un .len s)⟩ else .fail
   | .c (.row r ver) => .res r fun R => match R.k with
    | .row _ cts content ver' _ => if entails R.g G && ver == ver' && sizeEq P el cts.length then .done ⟨.c (.ra r ver cts.length ie 0), [], inRange ie (.un .len content)⟩ else .fail
    | .box .. => .fail
   | _ => .fail
  | some (.array n el) => match sizeT P el with
   | some (m + 1) => match a with
    | .c (.ptr r off) => match ie with
     | .n z => if decide (0 ≤ z ∧ z < (n : Int)) then .done ⟨.c (.ptr r (off + z.toNat * (m + 1))), [], []⟩ else .fail
     | _ => if m == 0 then .done ⟨.c (.da r off n ie), [], inRange ie (.n n)⟩ else .done ⟨.c (.dr r off n (m + 1) ie), [], inRange ie (.n n)⟩
    | .c (.dr r base n' k i') => if m == 0 && k == n && Nat.ble (n' * n) 1048576 then .done ⟨.c (.da r base (n' * n) (.bin (.add .i64) (.bin (.mul .i64) i' (.n n)) ie)), [], inRange ie (.n n)⟩ else .fail
    | .c (.pa cts p off) => match ie with
     | .n z => if decide (0 ≤ z ∧ z < (n : Int)) then .done ⟨.c (.pa cts p (off + z.toNat * (m + 1))), [], []⟩ else .fail
     | _ => .done ⟨.c (.pdr cts p off n (m + 1) ie), [], inRange ie (.n n)⟩
    | .c (.pdr cts p base n' k i') => if m == 0 && k == n && Nat.ble (n' * n) 1048576 then .done ⟨.c (.pdr cts p base (n' * n) 1 (.bin (.add .i64) (.bin (.mul .i64) i' (.n n)) ie)), [], inRange ie (.n n)⟩ else .fail
    | .c (.ea e cts s k off) => match ie with
     | .n z => if decide (0 ≤ z ∧ z < (n : Int)) then .done ⟨.c (.ea e cts s k (off + z.toNat * (m + 1))), [], []⟩ else .fail
     | _ => .fail
    | _ => .fail
   | _ => .fail
  | _ => .fail
 | _ => .fail
def effIndex (t : TypeId) (a i : SV) : RM := match i with
 | .c (.x (.int _) ie) => match P.underlying t, a with
  | some .string, .c (.x .str e) => .done ⟨.c (.x (.int .u8) (.bin .sidx e ie)), [], inRange ie (.un .slen e)⟩
  | some (.array n el), .agg cs => match ie, sizeT P el, aggT P el with
   | .n z, some m, some ag => if decide (0 ≤ z ∧ z < (n : Int)) && Nat.ble (z.toNat * m + m) cs.length then .val (mkVal ag ((cs.drop (z.toNat * m)).take m)) [] else .fail
   | _, _, _ => .fail
  | _, _ => .fail
 | _ => .fail
def setParts (place : Nat → Option (Nat × Nat)) : List SC → List (Nat × SV) → Option (List SC)
 | z, [] => some z
 | z, (i, v) :: ps => match place i, cellsOf v with
  | some (off, size), some cs => if cs.length == size && noAny cs && Nat.ble (off + cs.length) z.length then setParts place (setRange z off cs) ps else none
  | _, _ => none
def placesOf : List Field → Option (List (Nat × Nat))
 | [] => some []
 | f :: fs => match sizeT P f.type, placesOf fs with
  | some n, some l => some ((f.offset, n) :: l)
  | _, _ => none
def effBuild (t : TypeId) (parts : List (Nat × SV)) : RM := match zeroCells P t, P.underlying t with
 | some z, some (.struct fs) => match placesOf P fs.toList with
  | some places => match setParts (places[·]?) z parts with
   | some cs => .done ⟨.agg cs, [], []⟩
   | none => .fail
  | none => .fail
 | some z, some (.array _ el) => match sizeT P el with
  | some n => match setParts (fun i => some (i * n, n)) z parts with
   | some cs => .done ⟨.agg cs, [], []⟩
   | none => .fail
  | none => .fail
 | _, _ => .fail
def eqCells : List CT → List SC → List SC → Option X
 | [], [], [] => some tt
 | .int k :: cts, .x (.int k1) a :: cs, .x (.int k2) b :: cs' => if decide (k1 = k) && decide (k2 = k) then (eqCells cts cs cs').map fun r => andX (.bin .eq a b) r else none
 | .bool :: cts, .x .bool a :: cs, .x .bool b :: cs' => (eqCells cts cs cs').map fun r => andX (.bin .beq a b) r
 | .str :: cts, .x .str a :: cs, .x .str b :: cs' => (eqCells cts cs cs').map fun r => andX (.bin .seq a b) r
 | _, _, _ => none
def eqFs (get : TypeId → Option (List CT)) : Nat → List Field → Option (List CT)
 | _, [] => some []
 | off, f :: fs => match get f.type with
  | some a => if f.name != "_" && f.offset == off && sizeEq P f.type a.length then (eqFs get (off + a.length) fs).map (a ++ ·) else none
  | none => none
def eqT : (fuel : Nat) → TypeId → Option (List CT)
 | 0, _ => none
 | fuel + 1, t => match P.underlying t with
  | some (.int k) => some [.int k]
  | some .bool => some [.bool]
  | some .string => some [.str]
  | some (.struct fs) => if P.stoodInHeld t then none else eqFs P (eqT fuel) 0 fs.toList
  | _ => none
def quoNd (b : X) : List Nd := match b with
 | .n z => if decide (z = 0) then [.c (.t false)] else []
 | b => [.c (notX (.bin .eq b (.n 0)))]
def shNd (b : X) : List Nd := match b with
 | .n z => if decide (0 ≤ z) then [] else [.c (.t false)]
 | b => [.c (leX (.n 0) b)]
def effBin (op : BinOp) (t : TypeId) (a b : SV) : RM := match a, b with
 | .c (.x (.int k) x), .c (.x (.int k') y) => match op with
  | .shl => .done ⟨.c (.x (.int k) (.bin (.shl k) x y)), [], shNd y⟩
  | .shr => .done ⟨.c (.x (.int k) (.bin (.shr k) x y)), [], shNd y⟩
  | _ => if decide (k = k') then match op with
   | .add => .done ⟨.c (.x (.int k) (.bin (.add k) x y)), [], []⟩
   | .sub => .done ⟨.c (.x (.int k) (.bin (.sub k) x y)), [], []⟩
   | .mul => .done ⟨.c (.x (.int k) (.bin (.mul k) x y)), [], []⟩
   | .quo => .done ⟨.c (.x (.int k) (.bin (.quo k) x y)), [], quoNd y⟩
   | .rem => .done ⟨.c (.x (.int k) (.bin (.rem k) x y)), [], quoNd y⟩
   | .and => .done ⟨.c (.x (.int k) (.bin (.and k) x y)), [], []⟩
   | .or => .done ⟨.c (.x (.int k) (.bin (.or k) x y)), [], []⟩
   | .andNot => .done ⟨.c (.x (.int k) (.bin (.andn k) x y)), [], []⟩
   | .eql => .done ⟨.c (.x .bool (.bin .eq x y)), [], []⟩
   | .neq => .done ⟨.c (.x .bool (notX (.bin .eq x y))), [], []⟩
   | .lss => .done ⟨.c (.x .bool (.bin .lt x y)), [], []⟩
   | .leq => .done ⟨.c (.x .bool (.bin .le x y)), [], []⟩
   | .gtr => .done ⟨.c (.x .bool (.bin .lt y x)), [], []⟩
   | .geq => .done ⟨.c (.x .bool (.bin .le y x)), [], []⟩
   | _ => .fail
   else .fail
 | .c (.x .bool x), .c (.x .bool y) => match P.underlying t, op with
  | some .bool, .eql => .done ⟨.c (.x .bool (.bin .beq x y)), [], []⟩
  | some .bool, .neq => .done ⟨.c (.x .bool (notX (.bin .beq x y))), [], []⟩
  | _, _ => .fail
 | .c (.x .str x), .c (.x .str y) => match op with
  | .eql => .done ⟨.c (.x .bool (.bin .seq x y)), [], []⟩
  | .neq => .done ⟨.c (.x .bool (notX (.bin .seq x y))), [], []⟩
  | _ => .fail
 | .agg cs, .agg cs' => match eqT P 6 t with
  | some cts => match eqCells cts cs cs' with
   | some r => if !P.eqGuardType P.depth t && aggT P t == some true then match op with
    | .eql => .done ⟨.c (.x .bool r), [], []⟩
    | .neq => .done ⟨.c (.x .bool (notX r)), [], []⟩
    | _ => .fail
    else .fail
   | none => .fail
  | none => .fail
 | _, _ => .fail
def effUn (op : UnOp) (a : SV) : RM := match op, a with
 | .neg, .c (.x (.int k) x) => .done ⟨.c (.x (.int k) (.un (.neg k) x)), [], []⟩
 | .not, .c (.x .bool x) => .done ⟨.c (.x .bool (notX x)), [], []⟩
 | _, _ => .fail
def effConvert (s d : TypeId) (a : SV) : RM := match P.underlying s, P.underlying d, a with
 | some _, some (.int k), .c (.x (.int _) x) => .done ⟨.c (.x (.int k) (.un (.cnv k) x)), [], []⟩
 | some _, some .string, .c (.x .str x) => .done ⟨.c (.x .str x), [], []⟩
 | _, _, _ => .fail
def effConvertB (s d : TypeId) (a : SV) : RM := match P.underlying s, P.underlying d, a with
 | some .string, some (.slice e), .c (.x .str x) => match P.underlying e with
  | some (.int .u8) => .done ⟨.c (.x (.sl e [.int .u8]) (.un .bytes x)), [], []⟩
  | _ => .fail
 | _, _, _ => effConvert P s d a
def flatArg (G : X) (fz : Bool) : CT → SC → (X → List (Nat × Res) → RM) → RM
 | .sl e cts, .row r ver, k => .res r fun R => match R.k with
  | .row ety cts' content ver' frz =>
   if entails R.g G && ety == e && CT.beqs cts' cts && ver == ver' then k content (if fz && !frz then [(r, ⟨R.g, .row ety cts' content ver' true⟩)] else []) else .fail
  | .box .. => .fail
 | .sl _ _, .cst (.slice none 0 0), k => k .lnil []
 | ct, .x ct' e, k => if CT.beq ct' ct then k e [] else .fail
 | _, _, _ => .fail
def boxArgs (G : X) (fz : Bool) : List CT → List SC → (List X → List (Nat × Res) → RM) → RM
 | [], _, k => k [] []
 | ct :: cts, c :: cs, k => flatArg G fz ct c fun e wr => boxArgs G fz cts cs fun es wr' => k (e :: es) (wr ++ wr')
 | _ :: _, [], _ => .fail
def cellArg1 (G : X) (fz : Bool) : CT → SC → (X → List (Nat × Res) → RM) → RM
 | .pt cts, .ptr r off, k => .res r fun R => match R.k with
  | .box ety cells frz => if entails R.g G && Nat.ble (off + cts.length) cells.length then
    boxArgs G fz cts (cells.drop off) fun xs wr => k (.pk (consX xs)) (wr ++ if fz && !frz then [(r, ⟨R.g, .box ety cells true⟩)] else []) else .fail
  | .row .. => .fail
 | ct, s, k => flatArg G fz ct s k
def isPtr : SC → Bool
 | .ptr .. => true
 | .x (.pt _) _ => true
 | _ => false
def cellArg0 (G : X) (fz : Bool) : CT → SC → (X → List (Nat × Res) → RM) → RM
 | .pn cts, s, k => if isPtr s then cellArg1 G fz (.pt cts) s k else match s with
  | .cst (.pointer none) => k (.pk .nil) []
  | s => cellArg1 G fz (.pn cts) s k
 | ct, s, k => cellArg1 G fz ct s k
def selfCts : List SC → Option (List CT)
 | [] => some []
 | .x ct _ :: cs => (selfCts cs).map (ct :: ·)
 | _ => none
def capsArg (G : X) (fz : Bool) : List (Nat × Nat) → (List CT → List X → List (Nat × Res) → RM) → RM
 | [], k => k [] [] []
 | c :: caps, k => .res c.1 fun R => match R.k with
  | .box _ cells _ => match selfCts (cells.drop c.2) with
   | some cts => cellArg0 G fz (.pt cts) (.ptr c.1 c.2) fun e wr => capsArg G fz caps fun ctss es wr' => k (.pt cts :: ctss) (e :: es) (wr ++ wr')
   | none => .fail
  | .row .. => .fail
def cellArg (G : X) (fz : Bool) : CT → SC → (X → List (Nat × Res) → RM) → RM
 | .clo, .fn f caps, k => capsArg G fz caps fun ctss es wr => k (.clo f ctss (consX es)) wr
 | ct, s, k => cellArg0 G fz ct s k
def cellsArg (G : X) (fz : Bool) : List CT → List SC → (List X → List (Nat × Res) → RM) → RM
 | [], [], k => k [] []
 | ct :: cts, c :: cs, k => cellArg G fz ct c fun e wr => cellsArg G fz cts cs fun es wr' => k (e :: es) (wr ++ wr')
 | _, _, _ => .fail
def argCells (ag : Bool) : SV → Option (List SC)
 | .agg cs => if ag then some cs else none
 | .c s => if ag then none else some [s]
 | _ => none
def argsX (G : X) (fz : Bool) : List (Bool × List CT) → List SV → (List X → List (Nat × Res) → RM) → RM
 | [], [], k => k [] []
 | p :: ps, v :: vs, k => match argCells p.1 v with
  | some cs => cellsArg G fz p.2 cs fun es wr => argsX G fz ps vs fun es' wr' => k (es ++ es') (wr ++ wr')
  | none => .fail
 | _, _, _ => .fail
def flatCT : CT → Bool | .int _ | .bool | .str => true | _ => false
def scalarCT : CT → Bool | .osl _ cts => cts.all flatCT | ct => flatCT ct
def oN : List CT → Nat
 | [] => 0
 | .osl _ _ :: cs => oN cs + 1
 | _ :: cs => oN cs
def oNs (rs : List (Bool × List CT)) : Nat := oN (rs.map (·.2)).flatten
def scalars (rs : List (Bool × List CT)) : Bool := rs.all fun r => r.2.all scalarCT
def resCells (mk : Nat → X) : (j : Nat) → List CT → List SC
 | _, [] => []
 | j, ct :: cts => .x ct (mk j) :: resCells mk (j + 1) cts
def resTup (mk : Nat → X) : (j : Nat) → List (Bool × List CT) → List (Bool × List SC)
 | _, [] => []
 | j, r :: rs => (r.1, resCells mk j r.2) :: resTup mk (j + r.2.length) rs
def resSV (mk : Nat → X) (rs : List (Bool × List CT)) : Option SV := match rs with
 | [] => some .und
 | [r] => mkVal r.1 (resCells mk 0 r.2)
 | rs => some (.tup (resTup mk 0 rs))
def resCellsO (mk : Nat → X) : (j r : Nat) → List CT → List SC
 | _, _, [] => []
 | j, r, .osl _ _ :: cts => .row r 1 :: resCellsO mk (j + 1) (r + 1) cts
 | j, r, ct :: cts => .x ct (mk j) :: resCellsO mk (j + 1) r cts
def resTupO (mk : Nat → X) : (j r : Nat) → List (Bool × List CT) → List (Bool × List SC)
 | _, _, [] => []
 | j, r, p :: rs => (p.1, resCellsO mk j r p.2) :: resTupO mk (j + p.2.length) (r + oN p.2) rs
def resSVO (mk : Nat → X) (r : Nat) (rs : List (Bool × List CT)) : Option SV := match rs with
 | [] => some .und
 | [p] => mkVal p.1 (resCellsO mk 0 r p.2)
 | rs => some (.tup (resTupO mk 0 r rs))
def ownWr (mk : Nat → X) (G : X) : (j r : Nat) → List CT → List (Nat × Res)
 | _, _, [] => []
 | j, r, .osl e cts :: cs => (r, ⟨G, .row e cts (mk j) 1 false⟩) :: ownWr mk G (j + 1) (r + 1) cs
 | j, r, _ :: cs => ownWr mk G (j + 1) r cs
variable (sg : FuncId → Option Sig)
def ptrSame : SV → SV → Bool
 | .c (.ptr r o), .c (.ptr r' o') => r == r' && o == o'
 | .c (.ra r _ _ _ o), .c (.ra r' _ _ _ o') => r == r' && o == o'
 | .c (.ptr ..), _ => false
 | .c (.ra ..), _ => false
 | _, _ => true
def ptrsSame : List SV → List SV → Bool
 | _, [] => true
 | [], _ => false
 | a :: as, b :: bs => ptrSame a b && ptrsSame as bs
def pickL : List (LoopSig × Nat) → List SV → Option (LoopSig × Nat)
 | [], _ => none
 | p :: ps, vs => if ptrsSame p.1.head.slots vs then some p else pickL ps vs
def readAll : List Nat → (List (Nat × Res) → RM) → RM
 | [], k => k []
 | r :: rs, k => .res r fun R => readAll rs fun l => k ((r, R) :: l)
def resAt (l : List (Nat × Res)) (n : Nat) : List (Option Res) := (List.range n).map fun r => (l.find? (·.1 == r)).map (·.2)
def listedOf (hs : List (Option Res)) : List Nat := (List.range hs.length).filter (listed hs)
def sameX : List X → List X → Bool
 | [], [] => true
 | a :: as, b :: bs => X.beq a b && sameX as bs
 | _, _ => false
def wrPr (L : LoopSig) (args : List X) (rs : List (Option Res)) : List (Nat × Res) := (listedOf L.head.res).filterMap fun r => match L.head.res.getD r none with
 | some y => some (r, ⟨tt, instRK (subOf L args) (versOf L ⟨[], rs⟩) r y.k⟩)
 | none => none
def anys (n : Nat) : List SV := List.replicate n .any
def lastSome (l : List (Option Res)) : Bool := match l.getLast? with
 | some none => false
 | _ => true
def effProc (G : X) (S : Sig) (L : LoopSig) (m : Nat) (args : List SV) : RM :=
 if !(isTt G && lastSome L.head.res) then .fail else readAll (listedOf L.head.res) fun l =>
  let rs := resAt l L.head.res.length
  match matchHead L.head L.nv ⟨args ++ List.replicate (L.head.slots.length - args.length) .und, rs⟩, matchHead ⟨[], L.head.res⟩ m ⟨[], rs⟩ with
  | some xs, some ys => if sameX (xs.take m) ys && scalars S.rs && args.length == S.ps.length then match resSV (fun j => .app L.key (consX xs) (L.wv.length + 1 + j)) S.rs with
   | some v => .done ⟨v, wrPr L xs rs, [.pre L.key (consX xs)]⟩
   | none => .fail
   else .fail
  | _, _ => .fail
def effCall0 (G : X) (id : Nat) (S : Sig) (f : FuncId) (args : List SV) : RM := argsX G (!scalars S.rs) S.ps args fun es wr => match resSVO (fun j => .app f (consX es) j) id S.rs with
 | some v => .done ⟨v, wr ++ ownWr (fun j => .app f (consX es) j) G 0 id (S.rs.map (·.2)).flatten, [.pre f (consX es)]⟩
 | none => .fail
def rowOf (S : Sig) : Option (TypeId × List CT × List (Bool × List CT)) := match S.ps with
 | (false, [.osl e cts]) :: ps => some (e, cts, ps)
 | _ => none
def effRow (G : X) (S : Sig) (q : TypeId × List CT × List (Bool × List CT)) (f : FuncId) (args : List SV) : RM := match args with
 | .c (.row r ver) :: rest => .res r fun R => match R.k with
  | .row ety cts content ver' frz =>
   if isTt G && isTt R.g && !frz && ver == ver' && ety == q.1 && CT.beqs cts q.2.1 then
    argsX G true q.2.2 rest fun es wr =>
     if wr.all (fun p => !(p.1 == r)) then match S.rs with
      | [(false, [.sl _ _])] => .done ⟨.c (.row r (ver + 1)), wr ++ [(r, ⟨R.g, .row ety cts (.app f (consX (content :: es)) 0) (ver + 1) false⟩)], [.pre f (consX (content :: es))]⟩
      | [] => .done ⟨.und, wr ++ [(r, ⟨R.g, .row ety cts (.app f (consX (content :: es)) 0) ver false⟩)], [.pre f (consX (content :: es))]⟩
      | _ => .fail
     else .fail
   else .fail
  | .box .. => .fail
 | _ => .fail
def effCall (G : X) (id : Nat) (ow : Bool) (f : FuncId) (args : List SV) : RM := match sg f with
 | some S => if S.w.isSome || !(ow || oNs S.rs == 0) then .fail else if S.pc.isEmpty then (match rowOf S with
  | some q => effRow G S q f args
  | none => effCall0 G id S f args) else match pickL S.pc args with
  | some p => effProc G S p.1 p.2 args
  | none => .fail
 | none => .fail
def minmax (o : Op2) : SV → List SV → Option SV
 | a, [] => some a
 | .c (.x (.int k) x), .c (.x (.int k') y) :: vs => if k == k' then minmax o (.c (.x (.int k) (.bin o x y))) vs else none
 | _, _ => none
def isInt : SV → Bool | .c (.x (.int _) _) => true | _ => false
def effLen (G : X) (t : TypeId) (a : SV) : RM := match P.underlying t, a with
 | some (.slice _), .c (.x (.sl _ _) s) => .done ⟨.c (.x (.int .i64) (.un .len s)), [], []⟩
 | some (.slice _), .c (.cst (.slice none 0 0)) => .done ⟨.c (.x (.int .i64) (.n 0)), [], []⟩
 | some (.slice _), .c (.row r ver) => .res r fun R => match R.k with
  | .row _ _ content ver' _ => if entails R.g G && ver == ver' then .done ⟨.c (.x (.int .i64) (.un .len content)), [], []⟩ else .fail
  | .box .. => .fail
 | some .string, .c (.x .str s) => .done ⟨.c (.x (.int .i64) (.un .slen s)), [], []⟩
 | _, _ => .fail
def roomFor (e : TypeId) : Option Nat := match P.info? e with
 | some i => if i.bytes == 0 then none else some (140737488355328 / i.bytes)
 | none => none
def srcArg (G : X) (e : TypeId) (cts : List CT) : SC → (X → RM) → RM
 | .row r ver, k => .res r fun R => match R.k with
  | .row ety cts' content ver' _ => if entails R.g G && ety == e && CT.beqs cts' cts && ver == ver' then k content else .fail
  | .box .. => .fail
 | .cst (.slice none 0 0), k => k .lnil
 | .x (.sl _ cts') s, k => if CT.beqs cts' cts then k s else .fail
 | _, _ => .fail
def zeroLen (e : TypeId) (n : Nat) : Bool := match zeroCells P e with
 | some z => z.length == n
 | none => false
def effAppend (G : X) (id : Nat) (t : TypeId) (s x : SV) : RM := match P.underlying t with
 | some (.slice e) => match ctsT P 6 e, roomFor P e with
  | some cts, some room => if !sizeEq P e cts.length || cts.length == 0 || !zeroLen P e cts.length then .fail else match x with
   | .c xc => srcArg G e cts xc fun cx => match s with
    | .c (.cst (.slice none 0 0)) => .done ⟨.c (.row id 1), [(id, ⟨G, .row e cts (.bin .cat .lnil cx) 1 false⟩)], [.c (leX (.un .len cx) (.n room))]⟩
    | .c (.row r ver) => .res r fun R => match R.k with
     | .row ety cts' content ver' frz =>
      if isTt G && isTt R.g && !frz && ver == ver' && ety == e && CT.beqs cts' cts then
       .done ⟨.c (.row r (ver + 1)), [(r, ⟨R.g, .row e cts (.bin .cat content cx) (ver + 1) false⟩)], [.c (leX (.un .len (.bin .cat content cx)) (.n room))]⟩
      else .fail
     | .box .. => .fail
    | _ => .fail
   | _ => .fail
  | _, _ => .fail
 | _ => .fail
def effCopy (G : X) (d : TypeId) (s x : SV) : RM := match P.underlying d with
 | some (.slice e) => match ctsT P 6 e with
  | some [ct] => if !sizeEq P e 1 then .fail else match x with
   | .c xc => srcArg G e [ct] xc fun cx => match s with
    | .c (.row r ver) => .res r fun R => match R.k with
     | .row ety cts' content ver' frz =>
      if isTt G && isTt R.g && !frz && ver == ver' && ety == e && CT.beqs cts' [ct] then
       .done ⟨.c (.x (.int .i64) (.un .len cx)), [(r, ⟨R.g, .row e [ct] cx ver false⟩)], [.c (.bin .eq (.un .len content) (.un .len cx))]⟩
      else .fail
     | .box .. => .fail
    | _ => .fail
   | _ => .fail
  | _ => .fail
 | _ => .fail
def partsAt : (k : Nat) → List (Nat × SV) → Bool
 | _, [] => true
 | k, p :: ps => p.1 == k && partsAt (k + 1) ps
def rowsArg (G : X) (cts : List CT) : List (Nat × SV) → (X → List (Nat × Res) → RM) → RM
 | [], k => k .lnil []
 | p :: ps, k => match cellsOf p.2 with
  | some cs => cellsArg G true cts cs fun es wr => rowsArg G cts ps fun r wr' => k (.lcons (consX es) r) (wr ++ wr')
  | none => .fail
def effBuildSlice (G : X) (id : Nat) (t : TypeId) (n : Nat) (parts : List (Nat × SV)) : RM := match P.underlying t with
 | some (.slice e) => match ctsT P 6 e with
  | some cts => if sizeEq P e cts.length && !(cts.length == 0) && parts.length == n && partsAt 0 parts && Nat.ble (n * cts.length) 16777216 && (zeroCells P e).isSome then
   rowsArg G cts parts fun content wr => .done ⟨.c (.row id 1), wr ++ [(id, ⟨G, .row e cts content 1 false⟩)], []⟩
   else .fail
  | none => .fail
 | _ => .fail
def effMakeSlice (G : X) (id : Nat) (t : TypeId) (l c : SV) : RM := match P.underlying t, l, c with
 | some (.slice e), .c (.x (.int .i64) le), .c (.x (.int .i64) ce) => match ctsT P 6 e, roomFor P e, zeroCells P e with
  | some cts, some room, some z => match cellsData cts z with
   | some zs => if X.beq le ce && sizeEq P e cts.length && z.length == cts.length && !(cts.length == 0) then
    .done ⟨.c (.row id 1), [(id, ⟨G, .row e cts (.rep le (consX zs)) 1 false⟩)], [.c (leX (.n 0) le), .c (leX le (.n room))]⟩
    else .fail
   | none => .fail
  | _, _, _ => .fail
 | _, _, _ => .fail
def optInt (d : X) : Option SV → Option X
 | none => some d
 | some (.c (.x (.int _) e)) => some e
 | _ => none
def effSlice (G : X) (t : TypeId) (a : SV) (lo hi mx : Option SV) : RM := match P.underlying t, mx with
 | some (.slice el), none => match a with
  | .c (.x (.sl e cts) s) => match optInt (.n 0) lo, optInt (.un .len s) hi with
   | some l, some h => if sizeEq P el cts.length && !(cts.length == 0) then .done ⟨.c (.x (.sl e cts) (.sub s l h)), [], [.c (leX (.n 0) l), .c (leX l h), .c (leX h (.un .len s))]⟩ else .fail
   | _, _ => .fail
  | .c (.row r ver) => .res r fun R => match R.k with
   | .row e cts s ver' frz => match optInt (.n 0) lo, optInt (.un .len s) hi with
    | some l, some h => if entails R.g G && ver == ver' && sizeEq P el cts.length && !(cts.length == 0) then
     .done ⟨.c (.x (.sl e cts) (.sub s l h)), (if frz then [] else [(r, ⟨R.g, .row e cts s ver' true⟩)]), [.c (leX (.n 0) l), .c (leX l h), .c (leX h (.un .len s))]⟩ else .fail
    | _, _ => .fail
   | .box .. => .fail
  | _ => .fail
 | _, _ => .fail
def effPick (G : X) (c a b : SV) : RM := match c with
 | .c (.x .bool ec) => match strip (andX G ec) a, strip (andX G (notX ec)) b with
  | .c (.x .bool ea), .c (.x .bool eb) => .done ⟨.c (.x .bool (.ite ec ea eb)), [], []⟩
  | _, _ => .fail
 | _ => .fail
def effNilCheck (a : SV) : RM := match a with
 | .c (.ptr ..) | .c (.ea ..) | .c (.pa ..) | .c (.ra ..) | .c (.da ..) | .c (.dr ..) | .c (.pdr ..) | .c (.x (.pt _) _) => .done ⟨a, [], []⟩
 | .c (.x (.pn cts) p) => if cts.isEmpty then .fail else .done ⟨.c (.x (.pt cts) p), [], [.c (.un (.pnn cts.length) p)]⟩
 | _ => .fail
def effExtract (a : SV) (i : Nat) : RM := match a with
 | .tup vs => match vs[i]? with
  | some (ag, cs) => .val (mkVal ag cs) []
  | none => .fail
 | _ => .fail
def capsOf : List SV → Option (List (Nat × Nat))
 | [] => some []
 | .c (.ptr r off) :: vs => (capsOf vs).map ((r, off) :: ·)
 | _ => none
def effMakeFunc (fn : Fn) (first : List SV) (captured : List SV) : RM := match fn, first, capsOf captured with
 | .func f, [], some caps => .done ⟨.c (.fn f caps), [], []⟩
 | _, _, _ => .fail
def dynKey (ts : List TypeId) : FuncId := 20000 + ts.foldl (fun a t => a * 1000 + t + 1) 0
def effCallV (G : X) (id : Nat) (ow : Bool) (f : SV) (args : List SV) (ts : List TypeId) : RM := match f with
 | .c (.fn f caps) => if Nat.blt f 20000 then effCall sg G id ow f (args ++ caps.map fun c => .c (.ptr c.1 c.2)) else .fail
 | .c (.x .clo e) => effCall sg G id false (dynKey ts) (.c (.x .clo e) :: args)
 | _ => .fail
def selfData : List SC → Option (List CT × List X)
 | [] => some ([], [])
 | .x ct e :: cs => match selfData cs with
  | some (cts, es) => some (ct :: cts, e :: es)
  | none => none
 | _ => none
def effMakeIface (t : TypeId) (x : SV) : RM := match P.underlying t, x with
 | some (.struct _), .agg cs => match selfData cs with
  | some (cts, es) => .done ⟨.c (.x .ifc (.clo t cts (consX es))), [], []⟩
  | none => .fail
 | _, _ => .fail
def asCells (t : TypeId) (e : X) : (j : Nat) → List CT → List X → List SC
 | j, ct :: cts, z :: zs => .x ct (.ite (.un (.tag t) e) (.psel j e) z) :: asCells t e (j + 1) cts zs
 | _, _, _ => []
def zeroAgg (t : TypeId) : Bool := match (P.info? t).bind (·.zero) with
 | some (.agg _) => true
 | _ => false
def effTypeAssert (t : TypeId) (x : SV) (ok : Bool) : RM := match P.underlying t, x, ok with
 | some (.struct _), .c (.x .ifc e), true => match ctsT P 6 t, zeroCells P t, zeroAgg P t with
  | some cts, some z, true => match cellsData cts z with
   | some zs => if z.length == cts.length then .done ⟨.tup [(true, asCells t e 0 cts zs), (false, [.x .bool (.un (.tag t) e)])], [], [.ct (.un (.tag t) e) cts e]⟩ else .fail
   | none => .fail
  | _, _, _ => .fail
 | _, _, _ => .fail
def methF (name : String) (t : TypeId) : Option FuncId := match P.info? t with
 | some i => match i.methods.find? (·.name == name) with
  | some m => match m.func with
   | some (f, false) => match P.underlying t with
    | some (.struct _) => if m.path.isEmpty then some f else none
    | _ => none
   | _ => none
  | none => none
 | none => none
def cands (name : String) : List (TypeId × FuncId) := (List.range P.types.size).filterMap fun t => (methF P name t).map fun f => (t, f)
def psels (e : X) (n : Nat) : List X := (List.range n).map fun j => .psel j e
def rsBeq : List (Bool × List CT) → List (Bool × List CT) → Bool
 | [], [] => true
 | a :: as, b :: bs => a.1 == b.1 && CT.beqs a.2 b.2 && rsBeq as bs
 | _, _ => false
def invOf (rs : List (Bool × List CT)) (e : X) : List (TypeId × FuncId) → Option ((Nat → X) × List Nd)
 | [] => some (fun _ => .n 0, [])
 | (t, f) :: l => match sg f, invOf rs e l with
  | some S, some (mk, nds) => match S.ps with
   | [(true, cts)] => if S.pc.isEmpty && !S.w.isSome && rsBeq S.rs rs && Nat.blt f 20000 && oNs S.rs == 0 then
     some (fun j => .ite (.un (.tag t) e) (.app f (consX (psels e cts.length)) j) (mk j), .ct (.un (.tag t) e) cts e :: .pg (.un (.tag t) e) f (consX (psels e cts.length)) :: nds) else none
   | _ => none
  | _, _ => none
def anyTag (e : X) : List (TypeId × FuncId) → X
 | [] => .t false
 | (t, _) :: l => .ite (.un (.tag t) e) (.t true) (anyTag e l)
def effInvoke (x : SV) (name : String) : RM := match x with
 | .c (.x .ifc e) => match cands P name with
  | (t, f) :: l => match sg f with
   | some S => match invOf sg S.rs e ((t, f) :: l), S.rs with
    | some (mk, nds), rs => match resSVO mk 0 rs with
     | some v => .done ⟨v, [], .c (anyTag e ((t, f) :: l)) :: nds⟩
     | none => .fail
    | none, _ => .fail
   | none => .fail
  | [] => .fail
 | _ => .fail
def ownFn : Operand → Bool
 | .func _ => true
 | _ => false
def eff (G : X) (id : Nat) (arg : Operand → SV) (o : Op) : RM := match o with
 | .move x | .assign x => .done ⟨arg x, [], []⟩
 | .pick c a b => effPick G (arg c) (arg a) (arg b)
 | .alloc e => match zeroCells P e with
  | some cs => .done ⟨.c (.ptr id 0), [(id, ⟨G, .box e cs false⟩)], []⟩
  | none => .fail
 | .box e x => match cellsOf (arg x) with
  | some cs => if noAny cs then .done ⟨.c (.ptr id 0), [(id, ⟨G, .box e cs false⟩)], []⟩ else .fail
  | none => .fail
 | .build t ps => effBuild P t (ps.toList.map fun p => (p.1, arg p.2))
 | .buildSlice t n ps => effBuildSlice P G id t n (ps.toList.map fun p => (p.1, arg p.2))
 | .load t a => effLoad P G t (arg a)
 | .store t a v => effStore P G t (arg a) (arg v)
 | .nilCheck x => effNilCheck (arg x)
 | .binOp op t x y _ => effBin P op t (arg x) (arg y)
 | .unOp op _ x => effUn op (arg x)
 | .convert s d x => effConvertB P s d (arg x)
 | .fieldAddr s x f => effFieldAddr P s (arg x) f
 | .field t x f => effField P t (arg x) f
 | .indexAddr t x i => effIndexAddr P G t (arg x) (arg i)
 | .index t x i => effIndex P t (arg x) (arg i)
 | .extract x i => effExtract (arg x) i
 | .makeSlice t l c => effMakeSlice P G id t (arg l) (arg c)
 | .slice t x lo hi mx => effSlice P G t (arg x) (lo.map arg) (hi.map arg) (mx.map arg)
 | .makeInterface t x => effMakeIface P t (arg x)
 | .typeAssert x _ t ok => effTypeAssert P t (arg x) ok
 | .makeFunc fn first captured => effMakeFunc fn (first.toList.map arg) (captured.toList.map arg)
 | .call c => match c.callee with
  | .builtin .len => match c.args.toList, c.argTypes.toList with
   | [x], [t] => effLen P G t (arg x)
   | _, _ => .fail
  | .builtin .min => match c.args.toList.map arg with
   | v :: vs => if isInt v then .val (minmax .min v vs) [] else .fail
   | [] => .fail
  | .builtin .max => match c.args.toList.map arg with
   | v :: vs => if isInt v then .val (minmax .max v vs) [] else .fail
   | [] => .fail
  | .builtin .append => match c.args.toList, c.argTypes.toList with
   | [s, x], [t, t'] => if t == t' then effAppend P G id t (arg s) (arg x) else .fail
   | _, _ => .fail
  | .builtin .copy => match c.args.toList, c.argTypes.toList with
   | [s, x], [t, _] => effCopy P G t (arg s) (arg x)
   | _, _ => .fail
  | .value x => effCallV sg G id (ownFn x) (arg x) (c.args.toList.map arg) c.argTypes.toList
  | .invoke recv name => if c.args.isEmpty then effInvoke P sg (arg recv) name else .fail
  | _ => .fail
 | _ => .fail
def makes : Op → Nat
 | .alloc _ | .box .. | .buildSlice .. | .makeSlice .. => 1
 | .call { callee := .builtin .append, .. } => 1
 | .call { callee := .value (.func f), .. } => match sg f with
  | some S => oNs S.rs
  | none => 0
 | _ => 0
def number : Nat → List Oper → List (Oper × Nat)
 | _, [] => []
 | k, o :: os => (o, k) :: number (k + makes sg o.op) os
def countMakes : List Oper → Nat
 | [] => 0
 | o :: os => makes sg o.op + countMakes os
structure Foot where
 sr : List Nat
 sw : List Nat
 rr : List Nat
 rw : List Nat
def setAll (rs : List (Option Res)) : List (Nat × Res) → List (Option Res)
 | [] => rs
 | p :: ps => setAll (rs.set p.1 (some p.2)) ps
def putSlot (sl : List SV) (dst : Option Tmp) (v : SV) : List SV := match dst with
 | some d => sl.set d v
 | none => sl
def guardOf (ops : List Oper) (σ : St) (o : Oper) : Option X := match o.guard with
 | none => some tt
 | some (j, want) => match (ops[j]?).bind (·.dst) with
  | some d => guardX want (σ.slots.getD d .und)
  | none => some (.t false)
def tmpsOf (l : List Operand) : List Nat := l.filterMap fun | .tmp t => some t | _ => none
def guardTmp (ops : List Oper) (o : Oper) : List Nat := match o.guard with
 | none => []
 | some (j, _) => match (ops[j]?).bind (·.dst) with
  | some d => [d]
  | none => []
variable (wok : Nat → Bool)
def dstOk (dst : Option Tmp) : Bool := match dst with
 | some d => wok d
 | none => true
def isFf : X → Bool | .t b => !b | _ => false
def freshOk (o : Oper) (id : Nat) (rs : List (Option Res)) : Bool := (List.range (makes sg o.op)).all fun i => match rs[id + i]? with
 | some none => true
 | _ => false
def stepOp (ops : List Oper) (o : Oper) (id : Nat) (σ : St) : Option (St × List (X × Nd)) := match guardOf ops σ o with
 | none => none
 | some G => if !dstOk wok o.dst || !freshOk sg o id σ.res then none else
  if isFf G then some (⟨putSlot σ.slots o.dst .und, σ.res⟩, []) else
  match (eff P sg G id (fun x => strip G (σ.opd x)) o.op).run σ.res with
  | none => none
  | some eo => some (⟨putSlot σ.slots o.dst (if isTt G then eo.val else .grd G eo.val), setAll σ.res eo.wr⟩, eo.nd.map fun n => (G, n))
def footOf (ops : List Oper) (o : Oper) (id : Nat) (σ : St) : Foot :=
 let sr := tmpsOf o.op.operands.toList ++ guardTmp ops o
 let sw := o.dst.toList
 let own := (List.range (makes sg o.op)).map (id + ·)
 match guardOf ops σ o with
 | none => ⟨sr, sw, own, []⟩
 | some G => if isFf G then ⟨sr, sw, own, []⟩ else
  let m := eff P sg G id (fun x => strip G (σ.opd x)) o.op
  ⟨sr, sw, own ++ m.reads σ.res, match m.run σ.res with | some eo => eo.wr.map (·.1) | none => []⟩
def runOps (ops : List Oper) : List (Oper × Nat) → St → Option (St × List (X × Nd) × List Foot)
 | [], σ => some (σ, [], [])
 | (o, id) :: rest, σ => match stepOp P sg wok ops o id σ with
  | none => none
  | some (σ', nd) => match runOps ops rest σ' with
   | none => none
   | some (σ'', nd', fs) => some (σ'', nd ++ nd', footOf P sg ops o id σ :: fs)
def disj (a b : List Nat) : Bool := a.all fun x => !b.contains x
def indep (f g : Foot) : Bool := disj f.sw g.sr && disj f.sw g.sw && disj g.sw f.sr && disj f.rw g.rr && disj f.rw g.rw && disj g.rw f.rr
def waits (o : Oper) (i : Nat) : Bool := o.after.toList.any fun e => Region.binds .any e && e.on == i
def preds (o : Oper) : List Nat := o.after.toList.filterMap fun e => if Region.binds .any e then some e.on else none
def reachB (ops : List Oper) (i : Nat) : Nat → List Nat → Bool
 | 0, S => S.contains i
 | k + 1, S => S.contains i || reachB ops i k (if S.contains k then (match ops[k]? with | some o => preds o ++ S | none => S) else S)
def before (ops : List Oper) (o : Oper) (i : Nat) : Bool := reachB ops i ops.length (preds o)
def freeOf (ops : List Oper) (i : Nat) (f : Foot) : List (Oper × Foot) → Bool
 | [] => true
 | (o, g) :: rest => (waits o i || indep f g || before ops o i) && freeOf ops i f rest
def allFree (ops : List Oper) : Nat → List (Oper × Foot) → Bool
 | _, [] => true
 | i, (o, f) :: rest => o.after.toList.all (fun e => !Region.binds .any e || Nat.blt e.on i) && freeOf ops i f rest && allFree ops (i + 1) rest
def noSelects (ops : List Oper) : Bool := ops.all fun o => match o.op with
 | .select .. => false
 | _ => true
def regionEx0 (ops : Array Oper) (draw : Bool) (σ : St) : Option (St × List (X × Nd)) :=
 let l := ops.toList
 let σ0 : St := ⟨σ.slots, σ.res ++ List.replicate (countMakes sg l) none⟩
 match runOps P sg wok l (number sg σ.res.length l) σ0 with
 | none => none
 | some (σ', nd, fs) => if !draw || (noSelects l && allFree l 0 (l.zip fs)) then some (σ', nd) else none
def frzRow (l : List (Option Res)) (r : Nat) : List (Option Res) := match l.getD r none with
 | some ⟨g, .row e cts c v false⟩ => if isTt g then l.set r (some ⟨g, .row e cts c v true⟩) else l
 | _ => l
def frzRows (rs : List Nat) (σ : St) : St := ⟨σ.slots, rs.foldl frzRow σ.res⟩
def isSlice (o : Oper) : Bool := match o.op with
 | .slice .. => true
 | _ => false
def twice (ops : List Oper) (σ : St) : List Nat := if Nat.blt (ops.countP isSlice) 2 then [] else
 match runOps P sg wok ops (number sg σ.res.length ops) ⟨σ.slots, σ.res ++ List.replicate (countMakes sg ops) none⟩ with
 | none => []
 | some (_, _, fs) =>
  let ws := (ops.zip fs).flatMap fun p => if isSlice p.1 then p.2.rr else []
  (List.range σ.res.length).filter fun r => Nat.blt 1 (ws.count r)
def movedFrom (ops : List Oper) : Nat → Tmp → Tmp
 | 0, v => v
 | k + 1, v => match ops.find? (fun o => o.dst == some v) with
  | some o => match o.op with
   | .move (.tmp x) => movedFrom ops k x
   | _ => v
  | none => v
def intoRows (ops : List Oper) (σ : St) : List Nat := ops.filterMap fun o => match o.op with
 | .store _ (.tmp a) (.tmp v) => match σ.slots.getD (movedFrom ops 3 v) .und with
  | .c (.row q _) => if ops.any (fun o' => o'.dst == some a && match o'.op with
    | .indexAddr t _ _ => (match P.underlying t with | some (.slice _) => true | _ => false)
    | _ => false) then some q else none
  | _ => none
 | _ => none
def regionEx (ops : Array Oper) (draw : Bool) (σ : St) : Option (St × List (X × Nd)) := regionEx0 P sg wok ops draw (frzRows (intoRows P ops.toList σ ++ twice P sg wok ops.toList (frzRows (intoRows P ops.toList σ) σ)) σ)
def SC.under (n : Nat) : SC → Bool
 | .x _ e => e.under n
 | .ea _ _ s i _ => s.under n && i.under n
 | .pa _ p _ => p.under n
 | .ra _ _ _ i _ => i.under n
 | .da _ _ _ i => i.under n
 | .dr _ _ _ _ i => i.under n
 | .pdr _ p _ _ _ i => p.under n && i.under n
 | _ => true
def SC.repl (c : X) (n k : Nat) : SC → SC
 | .x ct e => .x ct (e.repl c n k)
 | .ea t cts s i off => .ea t cts (s.repl c n k) (i.repl c n k) off
 | .pa cts p off => .pa cts (p.repl c n k) off
 | .ra r ver m i off => .ra r ver m (i.repl c n k) off
 | .da r b m i => .da r b m (i.repl c n k)
 | .dr r b m q i => .dr r b m q (i.repl c n k)
 | .pdr cts p b m q i => .pdr cts (p.repl c n k) b m q (i.repl c n k)
 | s => s
def SV.under (n : Nat) : SV → Bool
 | .c s => s.under n
 | .agg cs => cs.all (SC.under n)
 | .tup vs => vs.all fun v => v.2.all (SC.under n)
 | .grd g s => g.under n && SV.under n s
 | _ => true
def SV.repl (c : X) (n k : Nat) : SV → SV
 | .c s => .c (s.repl c n k)
 | .agg cs => .agg (cs.map (SC.repl c n k))
 | .tup vs => .tup (vs.map fun v => (v.1, v.2.map (SC.repl c n k)))
 | .grd g s => .grd (g.repl c n k) (SV.repl c n k s)
 | s => s
def RK.under (n : Nat) : RK → Bool
 | .box _ cells _ => cells.all (SC.under n)
 | .row _ _ x _ _ => x.under n
def RK.repl (c : X) (n k : Nat) : RK → RK
 | .box e cells z => .box e (cells.map (SC.repl c n k)) z
 | .row e cts x ver z => .row e cts (x.repl c n k) ver z
def Res.under (n : Nat) (x : Res) : Bool := x.g.under n && x.k.under n
def Res.repl (c : X) (n k : Nat) (x : Res) : Res := ⟨x.g.repl c n k, x.k.repl c n k⟩
def St.under (n : Nat) (σ : St) : Bool := σ.slots.all (SV.under n) && σ.res.all fun | some x => x.under n | none => true
def St.repl (c : X) (n k : Nat) (σ : St) : St := ⟨σ.slots.map (SV.repl c n k), σ.res.map (Option.map (Res.repl c n k))⟩
def Nd.under (n : Nat) : Nd → Bool
 | .c x => x.under n
 | .pre _ as => as.under n
 | .pg g _ as => g.under n && as.under n
 | .ct g _ e => g.under n && e.under n
def Nd.repl (c : X) (n k : Nat) : Nd → Nd
 | .c x => .c (x.repl c n k)
 | .pre f as => .pre f (as.repl c n k)
 | .pg g f as => .pg (g.repl c n k) f (as.repl c n k)
 | .ct g cts e => .ct (g.repl c n k) cts (e.repl c n k)
inductive OT where
 | fin (k : EK) (σ : St)
 | need (g : X) (n : Nd) (t : OT)
 | ite (c : X) (a b : OT)
 | lt (c : X) (k : Nat) (t : OT)
 | fail
def OT.bind (n : Nat) : OT → (EK → Nat → St → OT) → OT
 | .fin k σ, f => f k n σ
 | .need g d t, f => .need g d (t.bind n f)
 | .ite c a b, f => .ite c (a.bind n f) (b.bind n f)
 | .lt c k t, f => .lt c k (t.bind (n + k) f)
 | .fail, _ => .fail
def Sig.width (S : Sig) : Nat := match rowOf S with
 | some _ => 1
 | none => (S.rs.map fun r => r.2.length).sum
def callOf : Nd → Option (X × Nat)
 | .pre f as => match sg f with
  | some S => some (.app f as 0, S.w.getD S.width)
  | none => none
 | _ => none
def ndsBelow (n : Nat) (nds : List (X × Nd)) : Bool := nds.all fun d => d.1.under n && d.2.under n
def share : (fuel : Nat) → (n : Nat) → List (X × Nd) → St → OT
 | _, _, [], σ => .fin .normal σ
 | 0, _, _ :: _, _ => .fail
 | fuel + 1, n, d :: nds, σ => match callOf sg d.2 with
  | none => .need d.1 d.2 (share fuel n nds σ)
  | some (c, k) =>
   if k == 0 then .need d.1 d.2 (share fuel n nds σ)
   else if St.under n σ && ndsBelow n nds && c.under n then
    .need d.1 d.2 (.lt c k (share fuel (n + k) (nds.map fun m => (m.1.repl c n k, m.2.repl c n k)) (St.repl c n k σ)))
   else .fail
def firstRegion : Code → Option Nat
 | .region id _ _ => some id
 | .seq a b => match firstRegion a with
  | some r => some r
  | none => firstRegion b
 | .block _ a => firstRegion a
 | .scope a => firstRegion a
 | .loop a => firstRegion a
 | .cond _ a _ => firstRegion a
 | _ => none
end
def nilsAt (P : Program) (hd : St) : List (Nat × Option Nat × TypeId) → St → Option St
 | [], σ => some σ
 | p :: ps, σ => match ctsT P 6 p.2.2 with
  | some cts => match nilAt (padSt σ (nilRowAt hd (p.1, p.2.1))) (p.1, p.2.1) p.2.2 cts with
   | some σ' => nilsAt P hd ps σ'
   | none => none
  | none => none
def exitsOT (c : X) (σ : St) : (k : Nat) → List EK → OT
 | _, [] => .fail
 | _, [e] => .fin e σ
 | k, e :: es => .ite (.bin .eq c (.n k)) (.fin e σ) (exitsOT c σ (k + 1) es)
section
variable (P : Program) (sg : FuncId → Option Sig) (wok : Nat → Bool) (lt : Nat → Option LoopSig)
def Code.loops : Code → List Code
 | .seq a b => Code.loops a ++ Code.loops b
 | .cond _ a b => Code.loops a ++ Code.loops b
 | .block _ a => Code.loops a
 | .scope a => Code.loops a
 | .loop a => a :: Code.loops a
 | _ => []
def frzSlot (hd : St) (σ : St) (n : Nat) : St := match hd.slots.getD n .und, σ.slots.getD n .und with
 | .c (.x (.sl e cts) (.var _)), .c (.row r ver) => match (frzRow σ.res r).getD r none with
  | some ⟨g, .row e' cts' c ver' true⟩ => if isTt g && ver == ver' && e == e' && CT.beqs cts cts' then ⟨σ.slots.set n (.c (.x (.sl e cts) c)), frzRow σ.res r⟩ else σ
  | _ => σ
 | _, _ => σ
def frzSlots (hd σ : St) : St := (List.range hd.slots.length).foldl (frzSlot hd) σ
def loopEx (body : Code) (n : Nat) (σ : St) : OT := match (firstRegion body).bind lt with
 | none => .fail
 | some L => match nilsAt P L.head L.nils σ with
  | none => .fail
  | some σ0 =>
   let σ1 := frzSlots L.head σ0
   match matchHead L.head L.nv σ1 with
   | none => .fail
   | some args =>
    let c : X := .app L.key (consX args) 0
    let k := L.wv.length + 1
    let σ2 := afterLoop L args σ1
    if L.ws.all wok && c.under n && St.under n σ2 then .need tt (.pre L.key (consX args)) (.lt c k (exitsOT (.var n) (St.repl c n k σ2) 0 L.exits)) else .fail
def ex : Code → Nat → St → OT
 | .skip, _, σ => .fin .normal σ
 | .region _ ops draw, n, σ => match regionEx P sg wok ops draw σ with
  | some (σ', nd) => share sg nd.length n nd σ'
  | none => .fail
 | .seq a b, n, σ => (ex a n σ).bind n fun k n' σ' => match k with
  | .normal => ex b n' σ'
  | k => .fin k σ'
 | .cond c a b, n, σ => match σ.opd c with
  | .c (.x .bool e) => match e with
   | .t true => ex a n σ
   | .t false => ex b n σ
   | e => .ite e (ex a n σ) (ex b n σ)
  | _ => .fail
 | .block id a, n, σ => (ex a n σ).bind n fun k _ σ' => if k = .exit id then .fin .normal σ' else .fin k σ'
 | .loop a, n, σ => loopEx P wok lt a n σ
 | .exit id, _, σ => .fin (.exit id) σ
 | .ret, _, σ => .fin .ret σ
 | _, _, _ => .fail
inductive VT where
 | ret (as : X)
 | need (g : X) (n : Nd) (t : VT)
 | ite (c : X) (a b : VT)
 | lt (c : X) (k : Nat) (t : VT)
 | bad
def OT.vt (leaf : EK → St → VT) : OT → VT
 | .fin k σ => leaf k σ
 | .need g n t => .need g n (t.vt leaf)
 | .ite c a b => .ite c (a.vt leaf) (b.vt leaf)
 | .lt c k t => .lt c k (t.vt leaf)
 | .fail => .bad
def cellRes0 (rs : List (Option Res)) : CT → SC → Option X
 | .sl e cts, .row r ver => match rs.getD r none with
  | some ⟨g, .row ety cts' content ver' _⟩ => if isTt g && ety == e && CT.beqs cts' cts && ver == ver' then some content else none
  | _ => none
 | .sl _ _, .cst (.slice none 0 0) => some .lnil
 | ct, .x ct' e => if CT.beq ct' ct then some e else none
 | _, _ => none
def cellsRes0 (rs : List (Option Res)) : List CT → List SC → Option (List X)
 | [], _ => some []
 | ct :: cts, c :: cs => match cellRes0 rs ct c, cellsRes0 rs cts cs with
  | some a, some b => some (a :: b)
  | _, _ => none
 | _ :: _, [] => none
def cellRes (rs : List (Option Res)) : CT → SC → Option X
 | .pn cts, .ptr r off => match rs.getD r none with
  | some ⟨g, .box _ cells _⟩ => if isTt g && Nat.ble (off + cts.length) cells.length then (cellsRes0 rs cts (cells.drop off)).map fun xs => .pk (consX xs) else none
  | _ => none
 | .pn _, .cst (.pointer none) => some (.pk .nil)
 | .pn cts, .x (.pt cts') e => if CT.beqs cts' cts then some e else none
 | ct, s => cellRes0 rs ct s
def cellsRes (rs : List (Option Res)) : List CT → List SC → Option (List X)
 | [], [] => some []
 | ct :: cts, c :: cs => match cellRes rs ct c, cellsRes rs cts cs with
  | some a, some b => some (a :: b)
  | _, _ => none
 | _, _ => none
def resOne (rs : List (Option Res)) (ag : Bool) (cts : List CT) (v : SV) : Option (List X) := match argCells ag v with
 | some cs => cellsRes rs cts cs
 | none => none
def resSlot (σ : St) : ResultVar → Option SV
 | .tmp t => some (σ.slots.getD t .und)
 | .cell x t => match σ.slots.getD x .und, sizeT P t, aggT P t with
  | .c (.ptr r off), some n, some ag => match σ.res.getD r none with
   | some ⟨g, .box _ cells _⟩ => if isTt g && Nat.ble (off + n) cells.length then mkVal ag ((cells.drop off).take n) else none
   | _ => none
  | _, _, _ => none
def resAll (σ : St) : List (Bool × List CT) → List ResultVar → Option (List X)
 | [], [] => some []
 | r :: rs, v :: vs => match resSlot P σ v with
  | some s => match resOne σ.res r.1 r.2 s, resAll σ rs vs with
   | some a, some b => some (a ++ b)
   | _, _ => none
  | none => none
 | _, _ => none
def cellResO (own : List Nat) (rs : List (Option Res)) : CT → SC → Option X
 | .osl e cts, .row r ver => match rs.getD r none with
  | some ⟨g, .row ety cts' content ver' false⟩ => if isTt g && ety == e && CT.beqs cts' cts && ver == ver' && own.contains r then some content else none
  | _ => none
 | .osl _ _, .cst (.slice none 0 0) => some .lnil
 | .osl _ _, _ => none
 | .sl e cts, .row r ver => if own.contains r then none else cellRes0 rs (.sl e cts) (.row r ver)
 | ct, s => cellRes0 rs ct s
def cellsResO (own : List Nat) (rs : List (Option Res)) : List CT → List SC → Option (List X)
 | [], [] => some []
 | ct :: cts, c :: cs => match cellResO own rs ct c, cellsResO own rs cts cs with
  | some a, some b => some (a :: b)
  | _, _ => none
 | _, _ => none
def ownCells : List CT → List SC → List Nat
 | .osl _ _ :: cts, .row r _ :: cs => r :: ownCells cts cs
 | _ :: cts, _ :: cs => ownCells cts cs
 | _, _ => []
def slotCells (σ : St) (r : Bool × List CT) (v : ResultVar) : Option (List SC) := match resSlot P σ v with
 | some s => argCells r.1 s
 | none => none
def resAllO (own : List Nat) (σ : St) : List (Bool × List CT) → List ResultVar → Option (List X)
 | [], [] => some []
 | r :: rs, v :: vs => match slotCells P σ r v with
  | some cs => match cellsResO own σ.res r.2 cs, resAllO own σ rs vs with
   | some a, some b => some (a ++ b)
   | _, _ => none
  | none => none
 | _, _ => none
def ownAll (σ : St) : List (Bool × List CT) → List ResultVar → List Nat
 | r :: rs, v :: vs => (match slotCells P σ r v with | some cs => ownCells r.2 cs | none => []) ++ ownAll σ rs vs
 | _, _ => []
def nodupB : List Nat → Bool
 | [] => true
 | r :: rs => !rs.contains r && nodupB rs
def fnLeaf (S : Sig) (rv : List ResultVar) : EK → St → VT
 | .normal, σ | .ret, σ => if oNs S.rs == 0 then (match resAll P σ S.rs rv with
  | some xs => .ret (consX xs)
  | none => .bad) else if nodupB (ownAll P σ S.rs rv) then (match resAllO P (ownAll P σ S.rs rv) σ S.rs rv with
  | some xs => .ret (consX xs)
  | none => .bad) else .bad
 | _, _ => .bad
def initCells : (j : Nat) → List CT → List SC
 | _, [] => []
 | j, ct :: cts => .x ct (.var j) :: initCells (j + 1) cts
def initSlots : (j : Nat) → List (Bool × List CT) → List SV
 | _, [] => []
 | j, p :: ps => (match mkVal p.1 (initCells j p.2) with | some s => s | none => .any) :: initSlots (j + p.2.length) ps
def initSt (ps : List (Bool × List CT)) (ntmps : Nat) : St := ⟨initSlots 0 ps ++ List.replicate (ntmps - ps.length) .und, []⟩
def fnVT (S : Sig) (fn : Func) (c : Code) : VT := (ex P sg (fun _ => true) lt c (S.ps.map fun p => p.2.length).sum (initSt S.ps fn.ntmps)).vt (fnLeaf P S fn.results.toList)
def sameVars (wv : List Nat) : (i : Nat) → List X → Bool
 | _, [] => true
 | i, x :: xs => (wv.contains i || X.beq x (.var i)) && sameVars wv (i + 1) xs
def sameRows (L : LoopSig) (σ : St) : (r : Nat) → List (Option Res) → Bool
  | _, [] => true
  | r, some ⟨_, .row _ _ (.var i) ver _⟩ :: rs => (L.hv.contains i || match σ.res.getD r none with
    | some ⟨_, .row _ _ _ ver' _⟩ => ver == ver'
    | _ => false) && sameRows L σ (r + 1) rs
  | r, _ :: rs => sameRows L σ (r + 1) rs
def ekPos (k : EK) : List EK → Option Nat
 | [] => none
 | e :: es => if e = k then some 0 else (ekPos k es).map (· + 1)
def swapSC (r q v v' : Nat) : SC → SC
 | .row p u => if p == q && u == v' then .row r (v + 1) else .row p u
 | s => s
def swapSlot (r q v v' : Nat) : SV → SV
 | .c s => .c (swapSC r q v v' s)
 | s => s
def swapRes (r q v v' : Nat) : Option Res → Option Res
 | some ⟨g, .box e cs z⟩ => some ⟨g, .box e (cs.map (swapSC r q v v')) z⟩
 | x => x
def rowSwap (σ : St) (p : Nat × Nat) : St := match σ.res.getD p.1 none, σ.res.getD p.2 none with
 | some ⟨g, .row e c x v z⟩, some ⟨g', .row e' c' x' v' z'⟩ => if isTt g && isTt g' && !(p.1 == p.2) then
   ⟨σ.slots.map (swapSlot p.1 p.2 v v'), ((σ.res.set p.1 (some ⟨g', .row e' c' x' (v + 1) z'⟩)).set p.2 (some ⟨g, .row e c x (v' + 1) z⟩)).map (swapRes p.1 p.2 v v')⟩ else σ
 | _, _ => σ
def swapOf1 (hd : St) : SC → SC → Option (Nat × Nat)
 | .row r _, .row q _ => if r == q || listed hd.res q then none else some (r, q)
 | _, _ => none
def swapsOf (hd σ : St) : List (Nat × Nat) := (((hd.slots.zip σ.slots).filterMap fun
 | (.c s, .c s') => swapOf1 hd s s'
 | _ => none) ++ ((hd.res.zip σ.res).flatMap fun
 | (some ⟨_, .box _ cs _⟩, some ⟨_, .box _ cs' _⟩) => (cs.zip cs').filterMap fun p => swapOf1 hd p.1 p.2
 | _ => [])).eraseDups
def alignRows (hd σ : St) : St := frzSlots hd ((swapsOf hd σ).foldl rowSwap σ)
def loopLeaf0 (L : LoopSig) (k : EK) (σ : St) : VT := match matchHead L.head L.nv σ with
 | none => .bad
 | some args => if sameVars L.wv 0 args && sameRows L σ 0 L.head.res then
   let vals := consX (L.wv.map fun i => args.getD i .nil)
   if k = .normal then .ret (.cons (.n (-1)) vals) else match ekPos k L.exits with
    | some j => .ret (.cons (.n j) vals)
    | none => .bad
  else .bad
def loopLeaf (L : LoopSig) : EK → St → VT := fun k σ => loopLeaf0 L k (alignRows L.head σ)
def loopVT (L : LoopSig) (body : Code) : VT := (ex P sg (fun n => L.ws.contains n) lt body L.nv L.head).vt (loopLeaf L)
end
end Go.RV
