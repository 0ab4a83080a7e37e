/-
  RV, part 1: what a symbolic run over a loaded program is made of: the types of cells, data, expressions over data, symbolic values, states; and when a value in memory represents a datum. Nothing here is about one program.
-/
import Derived.WalkKit
namespace Go.RV
open Go.RowKit

/-- the types of cells that are read as data -/
inductive CT where
  | int (k : IntKind) | bool | str
  | sl (e : TypeId) (cts : List CT)
  | pt (cts : List CT)
  | clo
  | ifc
  /-- a result that the caller may go on writing -/
  | osl (e : TypeId) (cts : List CT)
  deriving Inhabited

mutual
def CT.beq : CT → CT → Bool
  | .int k, .int k' => k == k'
  | .bool, .bool => true
  | .str, .str => true
  | .clo, .clo => true
  | .ifc, .ifc => true
  | .sl e cs, .sl e' cs' => e == e' && CT.beqs cs cs'
  | .osl e cs, .osl e' cs' => e == e' && CT.beqs cs cs'
  | .pt cs, .pt cs' => CT.beqs cs cs'
  | _, _ => false
def CT.beqs : List CT → List CT → Bool
  | [], [] => true
  | a :: as, b :: bs => CT.beq a b && CT.beqs as bs
  | _, _ => false
end

mutual
theorem CT.beq_eq : ∀ a b : CT, CT.beq a b = true → a = b
  | .int k, b => by cases b <;> simp [CT.beq]
  | .bool, b => by cases b <;> simp [CT.beq]
  | .str, b => by cases b <;> simp [CT.beq]
  | .clo, b => by cases b <;> simp [CT.beq]
  | .ifc, b => by cases b <;> simp [CT.beq]
  | .sl e cs, b => by
    cases b <;> simp only [CT.beq, Bool.and_eq_true, beq_iff_eq, Bool.false_eq_true, false_implies, CT.sl.injEq]
    rename_i e' cs'
    exact fun ⟨h1, h2⟩ => ⟨h1, CT.beqs_eq cs cs' h2⟩
  | .osl e cs, b => by
    cases b <;> simp only [CT.beq, Bool.and_eq_true, beq_iff_eq, Bool.false_eq_true, false_implies, CT.osl.injEq]
    rename_i e' cs'
    exact fun ⟨h1, h2⟩ => ⟨h1, CT.beqs_eq cs cs' h2⟩
  | .pt cs, b => by
    cases b <;> simp only [CT.beq, Bool.false_eq_true, false_implies, CT.pt.injEq]
    rename_i cs'
    exact fun h2 => CT.beqs_eq cs cs' h2
theorem CT.beqs_eq : ∀ a b : List CT, CT.beqs a b = true → a = b
  | [], b => by cases b <;> simp [CT.beqs]
  | x :: xs, b => by
    cases b with
    | nil => simp [CT.beqs]
    | cons y ys =>
      simp only [CT.beqs, Bool.and_eq_true, List.cons.injEq]
      exact fun ⟨h1, h2⟩ => ⟨CT.beq_eq x y h1, CT.beqs_eq xs ys h2⟩
end

/-- data -/
inductive D where
  | i (n : Int) | b (x : Bool) | s (x : ByteArray)
  | l (xs : List (List D))
  | p (xs : List D)
  | c (f : FuncId) (cts : List CT) (xs : List D)
  deriving Inhabited

def D.int : D → Int | .i n => n | _ => 0
def D.bool : D → Bool | .b x => x | _ => false
def D.str : D → ByteArray | .s x => x | _ => ByteArray.empty
def D.lst : D → List (List D) | .l xs => xs | _ => []
def D.ptd : D → List D | .p xs => xs | .c _ _ xs => xs | _ => []
def D.isT (t : Nat) : D → Bool | .c f _ _ => f == t | _ => false

@[simp] theorem D.int_i (n : Int) : (D.i n).int = n := rfl
@[simp] theorem D.bool_b (x : Bool) : (D.b x).bool = x := rfl
@[simp] theorem D.str_s (x : ByteArray) : (D.s x).str = x := rfl
@[simp] theorem D.lst_l (xs : List (List D)) : (D.l xs).lst = xs := rfl
@[simp] theorem D.ptd_p (xs : List D) : (D.p xs).ptd = xs := rfl

/-- 'The value v represents the datum d at the cell type' in the world w, all memory that is met lying in blocks of F. -/
inductive Rep (w : World) (F : Nat → Prop) : CT → Value → D → Prop where
  | int {k : IntKind} {n : Int} (h : k.min ≤ n ∧ n ≤ k.max) : Rep w F (.int k) (.int k n) (.i n)
  | bool {x : Bool} : Rep w F .bool (.bool x) (.b x)
  | str {s : ByteArray} (h : s.size ≤ maxLen) : Rep w F .str (.string s) (.s s)
  | nil {q : Option Addr} {e : TypeId} {cts : List CT} : Rep w F (.sl e cts) (.slice q 0 0) (.l [])
  | sl {e : TypeId} {cts : List CT} {g o len cap : Nat} {cur : Array Value} {t : TypeId} {fz : Nat × Nat} {xs : List (List D)}
      (hF : F g) (hg : w.heap[g]? = some (.cells cur t fz)) (hl : len ≤ cap) (hm : cap ≤ maxLen) (hc : o + cap * cts.length ≤ cur.size) (hn : xs.length = len)
      (hx : ∀ i, i < len → (xs.getD i []).length = cts.length)
      (hr : ∀ i j ct, i < len → cts[j]? = some ct → Rep w F ct (cur.getD (o + i * cts.length + j) undef) ((xs.getD i []).getD j default)) :
      Rep w F (.sl e cts) (.slice (some ⟨g, o, none⟩) len cap) (.l xs)
  | pt {cts : List CT} {g o : Nat} {cur : Array Value} {t : TypeId} {fz : Nat × Nat} {xs : List D}
      (hF : F g) (hg : w.heap[g]? = some (.cells cur t fz)) (hc : o + cts.length ≤ cur.size) (hn : xs.length = cts.length)
      (hr : ∀ j ct, cts[j]? = some ct → Rep w F ct (cur.getD (o + j) undef) (xs.getD j default)) :
      Rep w F (.pt cts) (.pointer (some ⟨g, o, none⟩)) (.p xs)
  | clo {f : FuncId} {vs : Array Value} {cts : List CT} {xs : List D} (hv : vs.size = cts.length) (hn : xs.length = cts.length)
      (hr : ∀ j ct, cts[j]? = some ct → Rep w F ct (vs.getD j undef) (xs.getD j default)) :
      Rep w F .clo (.func (.func f) #[] vs) (.c f cts xs)
  | ifc {t : TypeId} {vs : Array Value} {cts : List CT} {xs : List D} (hv : vs.size = cts.length) (hn : xs.length = cts.length)
      (hr : ∀ j ct, cts[j]? = some ct → Rep w F ct (vs.getD j undef) (xs.getD j default)) :
      Rep w F .ifc (.iface t (.agg vs)) (.c t cts xs)

/-- Memory that the reading does not meet may change, and more may be met. -/
theorem Rep.mono {w w' : World} {F F' : Nat → Prop} (hF : ∀ b, F b → F' b) (hw : ∀ b, F b → w'.heap[b]? = w.heap[b]?) {ct : CT} {v : Value} {d : D} (h : Rep w F ct v d) : Rep w' F' ct v d := by
  induction h with
  | int h => exact .int h
  | bool => exact .bool
  | str h => exact .str h
  | nil => exact .nil
  | sl h1 h2 h3 h4 h5 h6 h7 _ ih => exact .sl (hF _ h1) ((hw _ h1).trans h2) h3 h4 h5 h6 h7 ih
  | pt h1 h2 h3 h4 _ ih => exact .pt (hF _ h1) ((hw _ h1).trans h2) h3 h4 ih
  | clo h1 h2 _ ih => exact .clo h1 h2 ih
  | ifc h1 h2 _ ih => exact .ifc h1 h2 ih

/-- what may be stored in one cell -/
theorem Rep.oneCell {w : World} {F : Nat → Prop} {ct : CT} {v : Value} {d : D} (h : Rep w F ct v d) : v.oneCell' = true := by cases h <;> rfl

/-- A datum fits its cell type, whatever the memory. -/
inductive Wf : CT → D → Prop where
  | int {k : IntKind} {n : Int} (h : k.min ≤ n ∧ n ≤ k.max) : Wf (.int k) (.i n)
  | bool {x : Bool} : Wf .bool (.b x)
  | str {s : ByteArray} (h : s.size ≤ maxLen) : Wf .str (.s s)
  | sl {e : TypeId} {cts : List CT} {xs : List (List D)} (hm : xs.length ≤ maxLen) (hx : ∀ i, i < xs.length → (xs.getD i []).length = cts.length)
      (hr : ∀ i j ct, i < xs.length → cts[j]? = some ct → Wf ct ((xs.getD i []).getD j default)) : Wf (.sl e cts) (.l xs)
  | pt {cts : List CT} {xs : List D} (hn : xs.length = cts.length) (hr : ∀ j ct, cts[j]? = some ct → Wf ct (xs.getD j default)) : Wf (.pt cts) (.p xs)
  | clo {f : FuncId} {cts : List CT} {xs : List D} (hn : xs.length = cts.length) (hr : ∀ j ct, cts[j]? = some ct → Wf ct (xs.getD j default)) : Wf .clo (.c f cts xs)
  | ifc {t : TypeId} {cts : List CT} {xs : List D} (hn : xs.length = cts.length) (hr : ∀ j ct, cts[j]? = some ct → Wf ct (xs.getD j default)) : Wf .ifc (.c t cts xs)

theorem Rep.wf {w : World} {F : Nat → Prop} {ct : CT} {v : Value} {d : D} (h : Rep w F ct v d) : Wf ct d := by
  induction h with
  | int h => exact .int h
  | bool => exact .bool
  | str h => exact .str h
  | nil => exact .sl (by simp) (by simp) (by simp)
  | sl h1 h2 h3 h4 h5 h6 h7 _ ih => exact .sl (by omega) (fun i hi => h7 i (by omega)) (fun i j ct hi => ih i j ct (by omega))
  | pt h1 h2 h3 h4 _ ih => exact .pt h4 ih
  | clo h1 h2 _ ih => exact .clo h2 ih
  | ifc h1 h2 _ ih => exact .ifc h2 ih

/-! ### Expressions -/
inductive Op1 where
  | neg (k : IntKind) | cnv (k : IntKind) | not | len | slen | bytes | tag (t : Nat)
  deriving DecidableEq
inductive Op2 where
  | add (k : IntKind) | sub (k : IntKind) | mul (k : IntKind) | quo (k : IntKind) | rem (k : IntKind) | shl (k : IntKind) | shr (k : IntKind)
  | min | max | lt | le | eq | beq | seq | cat | sidx | and (k : IntKind)
  deriving DecidableEq

inductive X where
  | n (z : Int) | t (b : Bool) | str (x : ByteArray)
  | var (i : Nat)
  | nil | cons (h t : X)
  | lnil | lcons (cells rest : X)
  | un (o : Op1) (a : X) | bin (o : Op2) (a b : X) | ite (c a b : X)
  | sel (j : Nat) (s i : X) | sub (s lo hi : X) | snoc (s cells : X) | upd (j : Nat) (s i cells : X) | rep (n cells : X) | nth (cells i : X)
  | app (f : FuncId) (as : X) (j : Nat)
  | dyn (c as : X) (j : Nat)
  | pk (cells : X)
  | psel (j : Nat) (p : X)
  | clo (f : FuncId) (cts : List CT) (as : X)

def Op1.ev : Op1 → D → D
  | .neg k, a => .i (k.wrap (0 - a.int))
  | .cnv k, a => .i (k.wrap a.int)
  | .not, a => .b (!a.bool)
  | .len, a => .i a.lst.length
  | .slen, a => .i a.str.size
  | .tag t, a => .b (a.isT t)
  | .bytes, a => .l (a.str.data.toList.map fun b => [.i (b.toNat : Int)])

def Op2.ev : Op2 → D → D → D
  | .add k, a, b => .i (k.wrap (a.int + b.int))
  | .sub k, a, b => .i (k.wrap (a.int - b.int))
  | .mul k, a, b => .i (k.wrap (a.int * b.int))
  | .quo k, a, b => .i (k.wrap (a.int.tdiv b.int))
  | .rem _, a, b => .i (a.int.tmod b.int)
  | .shl k, a, b => .i (k.wrap (a.int * 2 ^ (Nat.min b.int.toNat k.bits)))
  | .shr k, a, b => .i (a.int.fdiv (2 ^ (Nat.min b.int.toNat k.bits)))
  | .min, a, b => .i (if b.int < a.int then b.int else a.int)
  | .max, a, b => .i (if b.int > a.int then b.int else a.int)
  | .lt, a, b => .b (decide (a.int < b.int))
  | .le, a, b => .b (decide (a.int ≤ b.int))
  | .eq, a, b => .b (a.int == b.int)
  | .beq, a, b => .b (a.bool == b.bool)
  | .seq, a, b => .b (a.str == b.str)
  | .cat, a, b => .l (a.lst ++ b.lst)
  | .and k, a, b => .i (k.wrap (BitVec.ofInt k.bits a.int &&& BitVec.ofInt k.bits b.int).toNat)
  | .sidx, a, b => .i ((a.str[b.int.toNat]?).getD 0).toNat

/-- cells j, j + 1, .. of an element are replaced -/
def splice (e : List D) (j : Nat) (cs : List D) : List D := e.take j ++ cs ++ e.drop (j + cs.length)

section
variable (Φ : FuncId → List D → List D) (ρ : List D)
mutual
def X.d : X → D
  | .n z => .i z
  | .t b => .b b
  | .str x => .s x
  | .var i => ρ.getD i default
  | .nil => default
  | .cons _ _ => default
  | .lnil => .l []
  | .lcons c r => .l (X.ds c :: (X.d r).lst)
  | .un o a => o.ev (X.d a)
  | .bin o a b => o.ev (X.d a) (X.d b)
  | .ite c a b => if (X.d c).bool = true then X.d a else X.d b
  | .sel j s i => ((X.d s).lst.getD (X.d i).int.toNat []).getD j default
  | .sub s lo hi => .l (((X.d s).lst.take (X.d hi).int.toNat).drop (X.d lo).int.toNat)
  | .snoc s cs => .l ((X.d s).lst ++ [X.ds cs])
  | .upd j s i cs => .l ((X.d s).lst.set (X.d i).int.toNat (splice ((X.d s).lst.getD (X.d i).int.toNat []) j (X.ds cs)))
  | .rep m cs => .l (List.replicate (X.d m).int.toNat (X.ds cs))
  | .nth cs i => (X.ds cs).getD (X.d i).int.toNat default
  | .app f as j => (Φ f (X.ds as)).getD j default
  | .dyn c as j => match X.d c with
    | .c f _ xs => (Φ f (X.ds as ++ xs)).getD j default
    | _ => default
  | .pk cs => .p (X.ds cs)
  | .psel j p => (X.d p).ptd.getD j default
  | .clo f cts as => .c f cts (X.ds as)
def X.ds : X → List D
  | .cons hd tl => X.d hd :: X.ds tl
  | _ => []
end
end

def CT.beqsI (a b : List CT) : Bool := CT.beqs a b

def X.beq : X → X → Bool
  | .n a, .n b => a == b
  | .t a, .t b => a == b
  | .str a, .str b => decide (a = b)
  | .var a, .var b => a == b
  | .nil, .nil => true
  | .lnil, .lnil => true
  | .cons a a', .cons b b' => X.beq a b && X.beq a' b'
  | .lcons a a', .lcons b b' => X.beq a b && X.beq a' b'
  | .un o a, .un o' b => decide (o = o') && X.beq a b
  | .bin o a a', .bin o' b b' => decide (o = o') && X.beq a b && X.beq a' b'
  | .ite a a' a'', .ite b b' b'' => X.beq a b && X.beq a' b' && X.beq a'' b''
  | .sel j a a', .sel k b b' => j == k && X.beq a b && X.beq a' b'
  | .sub a a' a'', .sub b b' b'' => X.beq a b && X.beq a' b' && X.beq a'' b''
  | .snoc a a', .snoc b b' => X.beq a b && X.beq a' b'
  | .upd j a a' a'', .upd k b b' b'' => j == k && X.beq a b && X.beq a' b' && X.beq a'' b''
  | .rep a a', .rep b b' => X.beq a b && X.beq a' b'
  | .nth a a', .nth b b' => X.beq a b && X.beq a' b'
  | .app f a j, .app g b k => f == g && X.beq a b && j == k
  | .dyn c a j, .dyn c' b k => X.beq c c' && X.beq a b && j == k
  | .pk a, .pk b => X.beq a b
  | .psel j a, .psel k b => j == k && X.beq a b
  | .clo f cts a, .clo g cts' b => f == g && CT.beqs cts cts' && X.beq a b
  | _, _ => false

theorem X.beq_eq : ∀ a b : X, X.beq a b = true → a = b := by
  intro a
  induction a <;> intro b <;> cases b <;> simp only [X.beq, Bool.false_eq_true, false_implies, Bool.and_eq_true, beq_iff_eq, decide_eq_true_eq, X.n.injEq, X.t.injEq, X.str.injEq, X.var.injEq, X.cons.injEq, X.lcons.injEq, X.un.injEq, X.bin.injEq, X.ite.injEq, X.sel.injEq, X.sub.injEq, X.snoc.injEq, X.upd.injEq, X.rep.injEq, X.nth.injEq, X.app.injEq, X.dyn.injEq, X.pk.injEq, X.psel.injEq, X.clo.injEq, imp_self] <;> intro h
  case cons.cons h1 h2 _ _ => exact ⟨h1 _ h.1, h2 _ h.2⟩
  case lcons.lcons h1 h2 _ _ => exact ⟨h1 _ h.1, h2 _ h.2⟩
  case un.un h1 _ _ => exact ⟨h.1, h1 _ h.2⟩
  case bin.bin h1 h2 _ _ _ => exact ⟨h.1.1, h1 _ h.1.2, h2 _ h.2⟩
  case ite.ite h1 h2 h3 _ _ _ => exact ⟨h1 _ h.1.1, h2 _ h.1.2, h3 _ h.2⟩
  case sel.sel h1 h2 _ _ _ => exact ⟨h.1.1, h1 _ h.1.2, h2 _ h.2⟩
  case sub.sub h1 h2 h3 _ _ _ => exact ⟨h1 _ h.1.1, h2 _ h.1.2, h3 _ h.2⟩
  case snoc.snoc h1 h2 _ _ => exact ⟨h1 _ h.1, h2 _ h.2⟩
  case upd.upd h1 h2 h3 _ _ _ _ => exact ⟨h.1.1.1, h1 _ h.1.1.2, h2 _ h.1.2, h3 _ h.2⟩
  case rep.rep h1 h2 _ _ => exact ⟨h1 _ h.1, h2 _ h.2⟩
  case nth.nth h1 h2 _ _ => exact ⟨h1 _ h.1, h2 _ h.2⟩
  case app.app h1 _ _ _ => exact ⟨h.1.1, h1 _ h.1.2, h.2⟩
  case dyn.dyn h1 h2 _ _ _ => exact ⟨h1 _ h.1.1, h2 _ h.1.2, h.2⟩
  case pk.pk h1 _ => exact h1 _ h
  case psel.psel h1 _ _ => exact ⟨h.1, h1 _ h.2⟩
  case clo.clo h1 _ _ _ => exact ⟨h.1.1, CT.beqs_eq _ _ h.1.2, h1 _ h.2⟩

end Go.RV
