/-
  RV, part 2: the symbolic run: states, what each operation does to them, regions, code, loops, functions. All of it is computed; part 3 and the following parts prove that it tells the truth.
-/
import Derived.Test.YthnilbkkihmpoaaRvSub
namespace Go.RV
open Go.RowKit

inductive SC where
  | x (ct : CT) (e : X)
  | ptr (r off : Nat)
  | ea (e : TypeId) (cts : List CT) (s i : X) (off : Nat)
  | pa (cts : List CT) (p : X) (off : Nat)
  | row (r ver : Nat)
  | ra (r ver n : Nat) (i : X) (off : Nat)
  | da (r base n : Nat) (i : X)
  | fn (f : FuncId) (caps : List (Nat × Nat))
  | cst (v : Value)
  | any

inductive SV where
  | c (s : SC) | agg (cs : List SC) | tup (vs : List (Bool × List SC)) | grd (g : X) (s : SV) | und | any

inductive RK where
  | box (ety : TypeId) (cells : List SC) (frz : Bool)
  | row (ety : TypeId) (cts : List CT) (content : X) (ver : Nat) (frz : Bool)

structure Res where
  g : X
  k : RK

structure St where
  slots : List SV
  res : List (Option Res)

def SC.beq : SC → SC → Bool
  | .x ct e, .x ct' e' => CT.beq ct ct' && X.beq e e'
  | .ptr r o, .ptr r' o' => r == r' && o == o'
  | _, _ => false
def SC.beqs : List SC → List SC → Bool
  | [], [] => true
  | a :: as, b :: bs => SC.beq a b && SC.beqs as bs
  | _, _ => false

def tt : X := .t true
def isTt : X → Bool | .t b => b | _ => false
def notX (e : X) : X := .un .not e
def andX (a b : X) : X := if isTt a then b else if isTt b then a else .ite a b (.t false)
def leX (a b : X) : X := .bin .le a b
def ltX (a b : X) : X := .bin .lt a b

def constSC : Value → SC
  | .int k n => if k.min ≤ n ∧ n ≤ k.max then .x (.int k) (.n n) else .any
  | .bool b => .x .bool (.t b)
  | .string s => if s.size ≤ maxLen then .x .str (.str s) else .any
  | v => if v.oneCell' then .cst v else .any
def constSV : Value → SV
  | .agg cs => .agg (cs.toList.map constSC)
  | .tuple _ => .any
  | v => .c (constSC v)

/-- G says g. -/
def entails (g : X) : X → Bool
  | .ite a b c => X.beq (.ite a b c) g || isTt g || (X.beq c (.t false) && (entails g a || entails g b))
  | G => X.beq G g || isTt g

def strip (G : X) : SV → SV
  | .grd g s => if entails g G then strip G s else .grd g s
  | s => s

def St.opd (σ : St) : Operand → SV
  | .tmp t => σ.slots.getD t .und
  | .const v => constSV v
  | .global _ => .any
  | .func f => .c (.fn f [])

def guardX (want : Bool) : SV → Option X
  | .c (.x .bool (.t b)) => some (.t (b == want))
  | .c (.x .bool e) => some (if want then e else notX e)
  | .grd g (.c (.x .bool e)) => some (andX g (if want then e else notX e))
  | .und => some (.t false)
  | _ => none

inductive Nd where
  | c (x : X)
  | pre (f : FuncId) (as : X)
  | pg (g : X) (f : FuncId) (as : X)
  | ct (g : X) (cts : List CT) (e : X)

structure EO where
  val : SV
  wr : List (Nat × Res)
  nd : List Nd

/-- an operation asks for resources and then says what it does -/
inductive RM where
  | fail
  | done (eo : EO)
  | res (r : Nat) (k : Res → RM)

def RM.run (rs : List (Option Res)) : RM → Option EO
  | .fail => none
  | .done eo => some eo
  | .res r k => match rs.getD r none with
    | some R => (k R).run rs
    | none => none
def RM.reads (rs : List (Option Res)) : RM → List Nat
  | .fail => []
  | .done _ => []
  | .res r k => r :: match rs.getD r none with
    | some R => (k R).reads rs
    | none => []

def RM.val (v : Option SV) (nd : List Nd) : RM := match v with
  | some s => .done ⟨s, [], nd⟩
  | none => .fail

def consX : List X → X
  | [] => .nil
  | a :: as => .cons a (consX as)

inductive EK where
  | normal | exit (id : Nat) | ret
  deriving DecidableEq

/-- What is told of a loop: 'key': its name among the functions of data; 'head': the state at its head, its data variables; 'wv': the variables that it writes; 'ws': the slots that it writes; 'exits'; 'nils': slots and cells of boxes that hold nil slices where it begins and rows of its own at its head. -/
structure LoopSig where
  key : FuncId
  nils : List (Nat × Option Nat × TypeId)
  head : St
  nv : Nat
  wv : List Nat
  ws : List Nat
  exits : List EK
  /-- the rows (variables) whose header turns -/
  hv : List Nat

/-- a nil slice becomes a row of the run's own -/
def nilAt (σ : St) (p : Nat × Option Nat) (e : TypeId) (cts : List CT) : Option St :=
  let r := σ.res.length
  match p with
  | (n, none) => match σ.slots.getD n .und with
    | .c (.cst (.slice none 0 0)) => some ⟨σ.slots.set n (.c (.row r 1)), σ.res ++ [some ⟨tt, .row e cts .lnil 1 false⟩]⟩
    | _ => none
  | (b, some off) => match σ.res.getD b none with
    | some ⟨g, .box ety cells false⟩ => match cells[off]? with
      | some (.cst (.slice none 0 0)) => if isTt g then some ⟨σ.slots, (σ.res.set b (some ⟨g, .box ety (cells.set off (.row r 1)) false⟩)) ++ [some ⟨tt, .row e cts .lnil 1 false⟩]⟩ else none
      | _ => none
    | _ => none


def listed (hs : List (Option Res)) (r : Nat) : Bool := (hs.getD r none).isSome

section
variable (hs rs : List (Option Res))
/-- the data that the pattern's variables stand for -/
def matchSC : SC → SC → Option (List (Nat × X))
  | .any, _ => some []
  | .x (.sl _ _) (.var i), .cst (.slice none 0 0) => some [(i, .lnil)]
  | .x ct (.var i), .x ct' e => if CT.beq ct ct' then some [(i, e)] else none
  | .ptr r off, .ptr r' off' => if r == r' && off == off' && listed hs r then some [] else none
  | .fn f caps, .fn f' caps' => if f == f' && caps == caps' && caps.all (fun c => listed hs c.1) then some [] else none
  | .row r one, .row r' ver => if r == r' && one == 1 && listed hs r then match rs.getD r none with
    | some ⟨_, .row _ _ _ ver' _⟩ => if ver == ver' then some [] else none
    | _ => none
    else none
  | .ra r one m (.var i) off, .ra r' ver m' e off' => if r == r' && one == 1 && m == m' && off == off' && listed hs r then match rs.getD r none with
    | some ⟨_, .row _ _ _ ver' _⟩ => if ver == ver' then some [(i, e)] else none
    | _ => none
    else none
  | _, _ => none
def matchSCs : List SC → List SC → Option (List (Nat × X))
  | [], [] => some []
  | a :: as, b :: bs => match matchSC hs rs a b, matchSCs as bs with
    | some l, some m => some (l ++ m)
    | _, _ => none
  | _, _ => none
def matchSV : SV → SV → Option (List (Nat × X))
  | .any, _ => some []
  | .c a, .c b => matchSC hs rs a b
  | .agg as, .agg bs => matchSCs hs rs as bs
  | _, _ => none
def matchSVs : List SV → List SV → Option (List (Nat × X))
  | [], [] => some []
  | a :: as, b :: bs => match matchSV hs rs a b, matchSVs as bs with
    | some l, some m => some (l ++ m)
    | _, _ => none
  | _, _ => none
def matchRK : RK → RK → Option (List (Nat × X))
  | .box e cs z, .box e' cs' z' => if e == e' && z == z' then matchSCs hs rs cs cs' else none
  | .row e cts (.var i) one z, .row e' cts' x _ z' => if e == e' && CT.beqs cts cts' && z == z' && one == 1 then some [(i, x)] else none
  | _, _ => none
def matchRess : List (Option Res) → List (Option Res) → Option (List (Nat × X))
  | [], _ => some []
  | none :: as, _ :: bs => matchRess as bs
  | some a :: as, some b :: bs => if isTt a.g && isTt b.g then match matchRK hs rs a.k b.k, matchRess as bs with
    | some l, some m => some (l ++ m)
    | _, _ => none
    else none
  | _, _ => none
end
def look (l : List (Nat × X)) (i : Nat) : Option X := match l with
  | [] => none
  | p :: ps => if p.1 == i then some p.2 else look ps i
def looks (l : List (Nat × X)) : (i n : Nat) → Option (List X)
  | _, 0 => some []
  | i, n + 1 => match look l i, looks l (i + 1) n with
    | some x, some xs => some (x :: xs)
    | _, _ => none
/-- each variable has one datum -/
def oneEach (l : List (Nat × X)) : Bool := match l with
  | [] => true
  | p :: ps => ps.all (fun q => !(q.1 == p.1)) && oneEach ps
def matchHead (hd : St) (nv : Nat) (σ : St) : Option (List X) := match matchSVs hd.res σ.res hd.slots σ.slots, matchRess hd.res σ.res hd.res σ.res with
  | some l, some m => if oneEach (l ++ m) && (l ++ m).all (fun p => Nat.blt p.1 nv) then looks (l ++ m) 0 nv else none
  | _, _ => none

/-- the head's state with data in its variables' places; 'vers': the rows' versions -/
def instSC (sub : Nat → X) (vers : Nat → Nat) : SC → SC
  | .x ct (.var i) => .x ct (sub i)
  | .row r _ => .row r (vers r)
  | .ra .. => .any
  | s => s
def instSV (sub : Nat → X) (vers : Nat → Nat) : SV → SV
  | .c s => .c (instSC sub vers s)
  | .agg cs => .agg (cs.map (instSC sub vers))
  | s => s
def instRK (sub : Nat → X) (vers : Nat → Nat) (r : Nat) : RK → RK
  | .box e cs z => .box e (cs.map (instSC sub vers)) z
  | .row e cts (.var i) _ z => .row e cts (sub i) (vers r) z
  | k => k

def zipSlots (ws : List Nat) (f : SV → SV) : (n : Nat) → List SV → List SV → List SV
  | n, a :: as, b :: bs => (if ws.contains n then f a else b) :: zipSlots ws f (n + 1) as bs
  | _, _, bs => bs
def zipRes (f : Nat → RK → RK) : (r : Nat) → List (Option Res) → List (Option Res) → List (Option Res)
  | r, some a :: as, _ :: bs => some ⟨tt, f r a.k⟩ :: zipRes f (r + 1) as bs
  | r, none :: as, b :: bs => b :: zipRes f (r + 1) as bs
  | _, _, bs => bs

def posIn (i : Nat) : List Nat → Option Nat
  | [] => none
  | j :: js => if j == i then some 0 else (posIn i js).map (· + 1)

/-- the version of row r behind the loop: a new one where its content may have turned -/
def versOf (L : LoopSig) (σ : St) (r : Nat) : Nat := match L.head.res.getD r none, σ.res.getD r none with
  | some ⟨_, .row _ _ (.var i) _ _⟩, some ⟨_, .row _ _ _ ver _⟩ => if L.hv.contains i then ver + 1 else ver
  | _, _ => 0

/-- the data of the head's variables behind the loop -/
def subOf (L : LoopSig) (args : List X) (i : Nat) : X := match posIn i L.wv with
  | some j => .app L.key (consX args) (j + 1)
  | none => args.getD i .nil
def afterLoop (L : LoopSig) (args : List X) (σ : St) : St :=
  ⟨zipSlots L.ws (instSV (subOf L args) (versOf L σ)) 0 L.head.slots σ.slots, zipRes (instRK (subOf L args) (versOf L σ)) 0 L.head.res σ.res⟩

/-- 'pc': for a function that writes what its caller's pointers lead to: the states in which it is called, each with the number of the data that lie in memory (the first variables); 'w': no function, but a name for what such calls give: how many data -/
structure Sig where
  ps : List (Bool × List CT)
  rs : List (Bool × List CT)
  pc : List (LoopSig × Nat)
  w : Option Nat

section
variable (P : Program)

def sizeT (t : TypeId) : Option Nat := (P.info? t).map (·.size)
def aggT (t : TypeId) : Option Bool := (P.underlying t).map fun | .struct _ | .array _ _ => true | _ => false

def cellsOf : SV → Option (List SC)
  | .c s => some [s]
  | .agg cs => some cs
  | _ => none
def mkVal (ag : Bool) (cs : List SC) : Option SV := if ag then some (.agg cs) else match cs with
  | [c] => some (.c c)
  | _ => none

def dataCells (cts : List CT) (mk : Nat → X) : (off n : Nat) → List SC
  | _, 0 => []
  | off, n + 1 => .x (cts.getD off .bool) (mk off) :: dataCells cts mk (off + 1) n

/-- the data of cells, where all are data of the given types -/
def cellsData : List CT → List SC → Option (List X)
  | [], _ => some []
  | ct :: cts, .x ct' e :: cs => if CT.beq ct' ct then (cellsData cts cs).map (e :: ·) else none
  | .sl _ _ :: cts, .cst (.slice none 0 0) :: cs => (cellsData cts cs).map (.lnil :: ·)
  | _, _ => none

def setRange (l : List SC) (off : Nat) (cs : List SC) : List SC := l.take off ++ cs ++ l.drop (off + cs.length)

def noAny : List SC → Bool
  | [] => true
  | .any :: _ => false
  | _ :: cs => noAny cs

/-- the cells of a type's zero value -/
def zeroCells (t : TypeId) : Option (List SC) := match (P.info? t).bind (·.zero) with
  | some v => cellsOf (constSV v)
  | none => none

def sizeEq (t : TypeId) (n : Nat) : Bool := match sizeT P t with | some m => m == n | none => false

/-- the cell types of a type -/
def ctsT : (fuel : Nat) → TypeId → Option (List CT)
  | 0, _ => none
  | fuel + 1, t => match P.underlying t with
    | some (.int k) => some [.int k]
    | some .bool => some [.bool]
    | some .string => some [.str]
    | some (.slice e) => (ctsT fuel e).map fun cts => [.sl e cts]
    | some (.struct fs) => fs.toList.foldr (fun f acc => match ctsT fuel f.type, acc with | some a, some b => some (a ++ b) | _, _ => none) (some [])
    | some (.array n e) => (ctsT fuel e).map fun cts => (List.replicate n cts).flatten
    | some (.func _ _ _) => some [.clo]
    | some (.interface _) => some [.ifc]
    | _ => none

def effLoad (G : X) (t : TypeId) (a : SV) : RM := match sizeT P t, aggT P t with
  | some n, some ag => match a with
    | .c (.ptr r off) => .res r fun R => match R.k with
      | .box _ cells _ => if entails R.g G && Nat.ble (off + n) cells.length then .val (mkVal ag ((cells.drop off).take n)) [] else .fail
      | .row .. => .fail
    | .c (.ea _ cts s i off) => if Nat.ble (off + n) cts.length then .val (mkVal ag (dataCells cts (fun j => .sel j s i) off n)) [] else .fail
    | .c (.x (.pt cts) p) => if Nat.ble n cts.length then .val (mkVal ag (dataCells cts (fun j => .psel j p) 0 n)) [] else .fail
    | .c (.pa cts p off) => if Nat.ble (off + n) cts.length then .val (mkVal ag (dataCells cts (fun j => .psel j p) off n)) [] else .fail
    | .c (.ra r ver m i off) => .res r fun R => match R.k with
      | .row _ cts content ver' _ => if entails R.g G && ver == ver' && m == cts.length && Nat.ble (off + n) cts.length then .val (mkVal ag (dataCells cts (fun j => .sel j content i) off n)) [] else .fail
      | .box .. => .fail
    | .c (.da r base m i) => .res r fun R => match R.k with
      | .box _ cells _ => match (cells.drop base).take m with
        | .x ct e :: rest => match cellsData (List.replicate m ct) (.x ct e :: rest) with
          | some xs => if entails R.g G && n == 1 && !ag && xs.length == m then .done ⟨.c (.x ct (.nth (consX xs) i)), [], []⟩ else .fail
          | none => .fail
        | _ => .fail
      | .row .. => .fail
    | _ => .fail
  | _, _ => .fail

def effStore (G : X) (t : TypeId) (a v : SV) : RM := match cellsOf v, a with
  | some cs, .c (.ptr r off) => .res r fun R => match R.k with
    | .box ety cells frz =>
      if isTt G && isTt R.g && !frz && sizeEq P t cs.length && Nat.ble (off + cs.length) cells.length && noAny cs then
        let cells' := setRange cells off cs
        .done ⟨.und, if SC.beqs cells' cells then [] else [(r, ⟨R.g, .box ety cells' frz⟩)], []⟩
      else .fail
    | .row .. => .fail
  | some cs, .c (.ra r ver m i off) => .res r fun R => match R.k with
    | .row ety cts content ver' frz => match cellsData ((cts.drop off).take cs.length) cs with
      | some xs =>
        if isTt G && isTt R.g && !frz && ver == ver' && m == cts.length && sizeEq P t cs.length && Nat.ble (off + cs.length) cts.length then
          .done ⟨.und, [(r, ⟨R.g, .row ety cts (.upd off content i (consX xs)) ver' frz⟩)], []⟩
        else .fail
      | none => .fail
    | .box .. => .fail
  | _, _ => .fail

def addOff (k : Nat) : SV → Option SV
  | .c (.ptr r off) => some (.c (.ptr r (off + k)))
  | .c (.ea e cts s i off) => some (.c (.ea e cts s i (off + k)))
  | .c (.x (.pt cts) p) => some (.c (.pa cts p k))
  | .c (.pa cts p off) => some (.c (.pa cts p (off + k)))
  | .c (.ra r ver n i off) => some (.c (.ra r ver n i (off + k)))
  | _ => none

def effFieldAddr (s : TypeId) (a : SV) (f : Nat) : RM := match P.underlying s with
  | some (.struct fs) => match fs[f]? with
    | some fd => match sizeT P fd.type with
      | some (_ + 1) => .val (addOff fd.offset a) []
      | _ => .fail
    | none => .fail
  | _ => .fail

def effField (t : TypeId) (a : SV) (f : Nat) : RM := match P.underlying t with
  | some (.struct fs) => match fs[f]? with
    | some fd => match sizeT P fd.type, aggT P fd.type, a with
      | some n, some ag, .agg cs => if Nat.ble (fd.offset + n) cs.length then .val (mkVal ag ((cs.drop fd.offset).take n)) [] else .fail
      | _, _, _ => .fail
    | none => .fail
  | _ => .fail

def inRange (i n : X) : List Nd := [.c (leX (.n 0) i), .c (ltX i n)]

def effIndexAddr (G : X) (t : TypeId) (a i : SV) : RM := match i with
  | .c (.x (.int _) ie) => match P.underlying t with
    | some (.slice el) => match a with
      | .c (.x (.sl e cts) s) => if sizeEq P el cts.length then .done ⟨.c (.ea e cts s ie 0), [], inRange ie (.un .len s)⟩ else .fail
      | .c (.row r ver) => .res r fun R => match R.k with
        | .row _ cts content ver' _ => if entails R.g G && ver == ver' && sizeEq P el cts.length then .done ⟨.c (.ra r ver cts.length ie 0), [], inRange ie (.un .len content)⟩ else .fail
        | .box .. => .fail
      | _ => .fail
    | some (.array n el) => match sizeT P el with
      | some (m + 1) => match a with
        | .c (.ptr r off) => match ie with
          | .n z => if decide (0 ≤ z ∧ z < (n : Int)) then .done ⟨.c (.ptr r (off + z.toNat * (m + 1))), [], []⟩ else .fail
          | _ => if m == 0 then .done ⟨.c (.da r off n ie), [], inRange ie (.n n)⟩ else .fail
        | .c (.ea e cts s k off) => match ie with
          | .n z => if decide (0 ≤ z ∧ z < (n : Int)) then .done ⟨.c (.ea e cts s k (off + z.toNat * (m + 1))), [], []⟩ else .fail
          | _ => .fail
        | _ => .fail
      | _ => .fail
    | _ => .fail
  | _ => .fail

def effIndex (t : TypeId) (a i : SV) : RM := match i with
  | .c (.x (.int _) ie) => match P.underlying t, a with
    | some .string, .c (.x .str e) => .done ⟨.c (.x (.int .u8) (.bin .sidx e ie)), [], inRange ie (.un .slen e)⟩
    | some (.array n el), .agg cs => match ie, sizeT P el, aggT P el with
      | .n z, some m, some ag => if decide (0 ≤ z ∧ z < (n : Int)) && Nat.ble (z.toNat * m + m) cs.length then .val (mkVal ag ((cs.drop (z.toNat * m)).take m)) [] else .fail
      | _, _, _ => .fail
    | _, _ => .fail
  | _ => .fail

def setParts (place : Nat → Option (Nat × Nat)) : List SC → List (Nat × SV) → Option (List SC)
  | z, [] => some z
  | z, (i, v) :: ps => match place i, cellsOf v with
    | some (off, size), some cs => if cs.length == size && noAny cs && Nat.ble (off + cs.length) z.length then setParts place (setRange z off cs) ps else none
    | _, _ => none

def placesOf : List Field → Option (List (Nat × Nat))
  | [] => some []
  | f :: fs => match sizeT P f.type, placesOf fs with
    | some n, some l => some ((f.offset, n) :: l)
    | _, _ => none

def effBuild (t : TypeId) (parts : List (Nat × SV)) : RM := match zeroCells P t, P.underlying t with
  | some z, some (.struct fs) => match placesOf P fs.toList with
    | some places => match setParts (places[·]?) z parts with
      | some cs => .done ⟨.agg cs, [], []⟩
      | none => .fail
    | none => .fail
  | some z, some (.array _ el) => match sizeT P el with
    | some n => match setParts (fun i => some (i * n, n)) z parts with
      | some cs => .done ⟨.agg cs, [], []⟩
      | none => .fail
    | none => .fail
  | _, _ => .fail

/-- the cells of a comparison of two structs, one after the other -/
def eqCells : List CT → List SC → List SC → Option X
  | [], [], [] => some tt
  | .int k :: cts, .x (.int k1) a :: cs, .x (.int k2) b :: cs' => if decide (k1 = k) && decide (k2 = k) then (eqCells cts cs cs').map fun r => andX (.bin .eq a b) r else none
  | .bool :: cts, .x .bool a :: cs, .x .bool b :: cs' => (eqCells cts cs cs').map fun r => andX (.bin .beq a b) r
  | .str :: cts, .x .str a :: cs, .x .str b :: cs' => (eqCells cts cs cs').map fun r => andX (.bin .seq a b) r
  | _, _, _ => none

/-- a type whose '==' goes cell by cell: ints, bools, strings and structs of these with no blank field -/
def eqFs (get : TypeId → Option (List CT)) : Nat → List Field → Option (List CT)
  | _, [] => some []
  | off, f :: fs => match get f.type with
    | some a => if f.name != "_" && f.offset == off && sizeEq P f.type a.length then (eqFs get (off + a.length) fs).map (a ++ ·) else none
    | none => none
def eqT : (fuel : Nat) → TypeId → Option (List CT)
  | 0, _ => none
  | fuel + 1, t => match P.underlying t with
    | some (.int k) => some [.int k]
    | some .bool => some [.bool]
    | some .string => some [.str]
    | some (.struct fs) => if P.stoodInHeld t then none else eqFs P (eqT fuel) 0 fs.toList
    | _ => none

def quoNd (b : X) : List Nd := match b with
  | .n z => if decide (z = 0) then [.c (.t false)] else []
  | b => [.c (notX (.bin .eq b (.n 0)))]

def shNd (b : X) : List Nd := match b with
  | .n z => if decide (0 ≤ z) then [] else [.c (.t false)]
  | b => [.c (leX (.n 0) b)]

def effBin (op : BinOp) (t : TypeId) (a b : SV) : RM := match a, b with
  | .c (.x (.int k) x), .c (.x (.int k') y) => match op with
    | .shl => .done ⟨.c (.x (.int k) (.bin (.shl k) x y)), [], shNd y⟩
    | .shr => .done ⟨.c (.x (.int k) (.bin (.shr k) x y)), [], shNd y⟩
    | _ => if decide (k = k') then match op with
      | .add => .done ⟨.c (.x (.int k) (.bin (.add k) x y)), [], []⟩
      | .sub => .done ⟨.c (.x (.int k) (.bin (.sub k) x y)), [], []⟩
      | .mul => .done ⟨.c (.x (.int k) (.bin (.mul k) x y)), [], []⟩
      | .quo => .done ⟨.c (.x (.int k) (.bin (.quo k) x y)), [], quoNd y⟩
      | .rem => .done ⟨.c (.x (.int k) (.bin (.rem k) x y)), [], quoNd y⟩
      | .and => .done ⟨.c (.x (.int k) (.bin (.and k) x y)), [], []⟩
      | .eql => .done ⟨.c (.x .bool (.bin .eq x y)), [], []⟩
      | .neq => .done ⟨.c (.x .bool (notX (.bin .eq x y))), [], []⟩
      | .lss => .done ⟨.c (.x .bool (.bin .lt x y)), [], []⟩
      | .leq => .done ⟨.c (.x .bool (.bin .le x y)), [], []⟩
      | .gtr => .done ⟨.c (.x .bool (.bin .lt y x)), [], []⟩
      | .geq => .done ⟨.c (.x .bool (.bin .le y x)), [], []⟩
      | _ => .fail
      else .fail
  | .c (.x .bool x), .c (.x .bool y) => match P.underlying t, op with
    | some .bool, .eql => .done ⟨.c (.x .bool (.bin .beq x y)), [], []⟩
    | some .bool, .neq => .done ⟨.c (.x .bool (notX (.bin .beq x y))), [], []⟩
    | _, _ => .fail
  | .c (.x .str x), .c (.x .str y) => match op with
    | .eql => .done ⟨.c (.x .bool (.bin .seq x y)), [], []⟩
    | .neq => .done ⟨.c (.x .bool (notX (.bin .seq x y))), [], []⟩
    | _ => .fail
  | .agg cs, .agg cs' => match eqT P 6 t with
    | some cts => match eqCells cts cs cs' with
      | some r => if !P.eqGuardType P.depth t && aggT P t == some true then match op with
        | .eql => .done ⟨.c (.x .bool r), [], []⟩
        | .neq => .done ⟨.c (.x .bool (notX r)), [], []⟩
        | _ => .fail
        else .fail
      | none => .fail
    | none => .fail
  | _, _ => .fail

def effUn (op : UnOp) (a : SV) : RM := match op, a with
  | .neg, .c (.x (.int k) x) => .done ⟨.c (.x (.int k) (.un (.neg k) x)), [], []⟩
  | .not, .c (.x .bool x) => .done ⟨.c (.x .bool (notX x)), [], []⟩
  | _, _ => .fail

def effConvert (s d : TypeId) (a : SV) : RM := match P.underlying s, P.underlying d, a with
  | some _, some (.int k), .c (.x (.int _) x) => .done ⟨.c (.x (.int k) (.un (.cnv k) x)), [], []⟩
  | some _, some .string, .c (.x .str x) => .done ⟨.c (.x .str x), [], []⟩
  | _, _, _ => .fail

/-- strings as lists of bytes, too -/
def effConvertB (s d : TypeId) (a : SV) : RM := match P.underlying s, P.underlying d, a with
  | some .string, some (.slice e), .c (.x .str x) => match P.underlying e with
    | some (.int .u8) => .done ⟨.c (.x (.sl e [.int .u8]) (.un .bytes x)), [], []⟩
    | _ => .fail
  | _, _, _ => effConvert P s d a

/-- a cell as an argument, a part of a new row, ..: its datum; 'fz': what is handed over is frozen from here on -/
def cellArg0 (G : X) (fz : Bool) : CT → SC → (X → List (Nat × Res) → RM) → RM
  | .sl e cts, .row r ver, k => .res r fun R => match R.k with
    | .row ety cts' content ver' frz =>
      if entails R.g G && ety == e && CT.beqs cts' cts && ver == ver' then k content (if fz && !frz then [(r, ⟨R.g, .row ety cts' content ver' true⟩)] else []) else .fail
    | .box .. => .fail
  | .sl _ _, .cst (.slice none 0 0), k => k .lnil []
  | .pt cts, .ptr r off, k => .res r fun R => match R.k with
    | .box ety cells frz => match cellsData cts (cells.drop off) with
      | some xs => if entails R.g G && Nat.ble (off + cts.length) cells.length then k (.pk (consX xs)) (if fz && !frz then [(r, ⟨R.g, .box ety cells true⟩)] else []) else .fail
      | none => .fail
    | .row .. => .fail
  | ct, .x ct' e, k => if CT.beq ct' ct then k e [] else .fail
  | _, _, _ => .fail

/-- the types of cells that are data -/
def selfCts : List SC → Option (List CT)
  | [] => some []
  | .x ct _ :: cs => (selfCts cs).map (ct :: ·)
  | _ => none

/-- captured variables, as data -/
def capsArg (G : X) (fz : Bool) : List (Nat × Nat) → (List CT → List X → List (Nat × Res) → RM) → RM
  | [], k => k [] [] []
  | c :: caps, k => .res c.1 fun R => match R.k with
    | .box _ cells _ => match selfCts (cells.drop c.2) with
      | some cts => cellArg0 G fz (.pt cts) (.ptr c.1 c.2) fun e wr => capsArg G fz caps fun ctss es wr' => k (.pt cts :: ctss) (e :: es) (wr ++ wr')
      | none => .fail
    | .row .. => .fail

def cellArg (G : X) (fz : Bool) : CT → SC → (X → List (Nat × Res) → RM) → RM
  | .clo, .fn f caps, k => capsArg G fz caps fun ctss es wr => k (.clo f ctss (consX es)) wr
  | ct, s, k => cellArg0 G fz ct s k

def cellsArg (G : X) (fz : Bool) : List CT → List SC → (List X → List (Nat × Res) → RM) → RM
  | [], [], k => k [] []
  | ct :: cts, c :: cs, k => cellArg G fz ct c fun e wr => cellsArg G fz cts cs fun es wr' => k (e :: es) (wr ++ wr')
  | _, _, _ => .fail

def argCells (ag : Bool) : SV → Option (List SC)
  | .agg cs => if ag then some cs else none
  | .c s => if ag then none else some [s]
  | _ => none

def argsX (G : X) (fz : Bool) : List (Bool × List CT) → List SV → (List X → List (Nat × Res) → RM) → RM
  | [], [], k => k [] []
  | p :: ps, v :: vs, k => match argCells p.1 v with
    | some cs => cellsArg G fz p.2 cs fun es wr => argsX G fz ps vs fun es' wr' => k (es ++ es') (wr ++ wr')
    | none => .fail
  | _, _, _ => .fail

def flatCT : CT → Bool | .int _ | .bool | .str => true | _ => false
def scalarCT : CT → Bool | .osl _ cts => cts.all flatCT | ct => flatCT ct
/-- how many rows of its own a call gives -/
def oN : List CT → Nat
  | [] => 0
  | .osl _ _ :: cs => oN cs + 1
  | _ :: cs => oN cs
def oNs (rs : List (Bool × List CT)) : Nat := oN (rs.map (·.2)).flatten
def scalars (rs : List (Bool × List CT)) : Bool := rs.all fun r => r.2.all scalarCT

def resCells (mk : Nat → X) : (j : Nat) → List CT → List SC
  | _, [] => []
  | j, ct :: cts => .x ct (mk j) :: resCells mk (j + 1) cts
def resTup (mk : Nat → X) : (j : Nat) → List (Bool × List CT) → List (Bool × List SC)
  | _, [] => []
  | j, r :: rs => (r.1, resCells mk j r.2) :: resTup mk (j + r.2.length) rs
def resSV (mk : Nat → X) (rs : List (Bool × List CT)) : Option SV := match rs with
  | [] => some .und
  | [r] => mkVal r.1 (resCells mk 0 r.2)
  | rs => some (.tup (resTup mk 0 rs))

/-- results with rows of the run's own: resources r, r + 1, .. -/
def resCellsO (mk : Nat → X) : (j r : Nat) → List CT → List SC
  | _, _, [] => []
  | j, r, .osl _ _ :: cts => .row r 1 :: resCellsO mk (j + 1) (r + 1) cts
  | j, r, ct :: cts => .x ct (mk j) :: resCellsO mk (j + 1) r cts
def resTupO (mk : Nat → X) : (j r : Nat) → List (Bool × List CT) → List (Bool × List SC)
  | _, _, [] => []
  | j, r, p :: rs => (p.1, resCellsO mk j r p.2) :: resTupO mk (j + p.2.length) (r + oN p.2) rs
def resSVO (mk : Nat → X) (r : Nat) (rs : List (Bool × List CT)) : Option SV := match rs with
  | [] => some .und
  | [p] => mkVal p.1 (resCellsO mk 0 r p.2)
  | rs => some (.tup (resTupO mk 0 r rs))
def ownWr (mk : Nat → X) (G : X) : (j r : Nat) → List CT → List (Nat × Res)
  | _, _, [] => []
  | j, r, .osl e cts :: cs => (r, ⟨G, .row e cts (mk j) 1 false⟩) :: ownWr mk G (j + 1) (r + 1) cs
  | j, r, _ :: cs => ownWr mk G (j + 1) r cs

variable (sg : FuncId → Option Sig)

def ptrSame : SV → SV → Bool
  | .c (.ptr r o), .c (.ptr r' o') => r == r' && o == o'
  | .c (.ra r _ _ _ o), .c (.ra r' _ _ _ o') => r == r' && o == o'
  | .c (.ptr ..), _ => false
  | .c (.ra ..), _ => false
  | _, _ => true
def ptrsSame : List SV → List SV → Bool
  | _, [] => true
  | [], _ => false
  | a :: as, b :: bs => ptrSame a b && ptrsSame as bs
/-- the state in which a function is called -/
def pickL : List (LoopSig × Nat) → List SV → Option (LoopSig × Nat)
  | [], _ => none
  | p :: ps, vs => if ptrsSame p.1.head.slots vs then some p else pickL ps vs

def readAll : List Nat → (List (Nat × Res) → RM) → RM
  | [], k => k []
  | r :: rs, k => .res r fun R => readAll rs fun l => k ((r, R) :: l)
def resAt (l : List (Nat × Res)) (n : Nat) : List (Option Res) := (List.range n).map fun r => (l.find? (·.1 == r)).map (·.2)
def listedOf (hs : List (Option Res)) : List Nat := (List.range hs.length).filter (listed hs)
def sameX : List X → List X → Bool
  | [], [] => true
  | a :: as, b :: bs => X.beq a b && sameX as bs
  | _, _ => false
/-- the data of the variables behind the call -/
def subPr (L : LoopSig) (args : List X) (i : Nat) : X := subOf L args i
def wrPr (L : LoopSig) (args : List X) (rs : List (Option Res)) : List (Nat × Res) := (listedOf L.head.res).filterMap fun r => match L.head.res.getD r none with
  | some y => some (r, ⟨tt, instRK (subOf L args) (versOf L ⟨[], rs⟩) r y.k⟩)
  | none => none
def anys (n : Nat) : List SV := List.replicate n .any

def lastSome (l : List (Option Res)) : Bool := match l.getLast? with
  | some none => false
  | _ => true
def effProc (G : X) (S : Sig) (L : LoopSig) (m : Nat) (args : List SV) : RM :=
  if !(isTt G && lastSome L.head.res) then .fail else readAll (listedOf L.head.res) fun l =>
    let rs := resAt l L.head.res.length
    match matchHead L.head L.nv ⟨args ++ List.replicate (L.head.slots.length - args.length) .und, rs⟩, matchHead ⟨[], L.head.res⟩ m ⟨[], rs⟩ with
    | some xs, some ys => if sameX (xs.take m) ys && scalars S.rs && args.length == S.ps.length then match resSV (fun j => .app L.key (consX xs) (L.wv.length + 1 + j)) S.rs with
      | some v => .done ⟨v, wrPr L xs rs, [.pre L.key (consX xs)]⟩
      | none => .fail
      else .fail
    | _, _ => .fail

def effCall0 (G : X) (id : Nat) (S : Sig) (f : FuncId) (args : List SV) : RM := argsX G (!scalars S.rs) S.ps args fun es wr => match resSVO (fun j => .app f (consX es) j) id S.rs with
  | some v => .done ⟨v, wr ++ ownWr (fun j => .app f (consX es) j) G 0 id (S.rs.map (·.2)).flatten, [.pre f (consX es)]⟩
  | none => .fail

/-- a function that changes the row that it gets (the first parameter) and hands it back, or nothing: the row's types and the other parameters -/
def rowOf (S : Sig) : Option (TypeId × List CT × List (Bool × List CT)) := match S.ps with
  | (false, [.osl e cts]) :: ps => some (e, cts, ps)
  | _ => none

def effRow (G : X) (S : Sig) (q : TypeId × List CT × List (Bool × List CT)) (f : FuncId) (args : List SV) : RM := match args with
  | .c (.row r ver) :: rest => .res r fun R => match R.k with
    | .row ety cts content ver' frz =>
      if isTt G && isTt R.g && !frz && ver == ver' && ety == q.1 && CT.beqs cts q.2.1 then
        argsX G true q.2.2 rest fun es wr =>
          if wr.all (fun p => !(p.1 == r)) then match S.rs with
            | [(false, [.sl _ _])] => .done ⟨.c (.row r (ver + 1)), wr ++ [(r, ⟨R.g, .row ety cts (.app f (consX (content :: es)) 0) (ver + 1) false⟩)], [.pre f (consX (content :: es))]⟩
            | [] => .done ⟨.und, wr ++ [(r, ⟨R.g, .row ety cts (.app f (consX (content :: es)) 0) ver false⟩)], [.pre f (consX (content :: es))]⟩
            | _ => .fail
          else .fail
      else .fail
    | .box .. => .fail
  | _ => .fail

/-- 'ow': may it give rows of its own? -/
def effCall (G : X) (id : Nat) (ow : Bool) (f : FuncId) (args : List SV) : RM := match sg f with
  | some S => if S.w.isSome || !(ow || oNs S.rs == 0) then .fail else if S.pc.isEmpty then (match rowOf S with
    | some q => effRow G S q f args
    | none => effCall0 G id S f args) else match pickL S.pc args with
    | some p => effProc G S p.1 p.2 args
    | none => .fail
  | none => .fail

def minmax (o : Op2) : SV → List SV → Option SV
  | a, [] => some a
  | .c (.x (.int k) x), .c (.x (.int k') y) :: vs => if k == k' then minmax o (.c (.x (.int k) (.bin o x y))) vs else none
  | _, _ => none

def isInt : SV → Bool | .c (.x (.int _) _) => true | _ => false

def effLen (G : X) (t : TypeId) (a : SV) : RM := match P.underlying t, a with
  | some (.slice _), .c (.x (.sl _ _) s) => .done ⟨.c (.x (.int .i64) (.un .len s)), [], []⟩
  | some (.slice _), .c (.cst (.slice none 0 0)) => .done ⟨.c (.x (.int .i64) (.n 0)), [], []⟩
  | some (.slice _), .c (.row r ver) => .res r fun R => match R.k with
    | .row _ _ content ver' _ => if entails R.g G && ver == ver' then .done ⟨.c (.x (.int .i64) (.un .len content)), [], []⟩ else .fail
    | .box .. => .fail
  | some .string, .c (.x .str s) => .done ⟨.c (.x (.int .i64) (.un .slen s)), [], []⟩
  | _, _ => .fail

/-- how many elements of a type an append or a make may give -/
def roomFor (e : TypeId) : Option Nat := match P.info? e with
  | some i => if i.bytes == 0 then none else some (140737488355328 / i.bytes)
  | none => none

/-- what an append appends: the elements, as data -/
def srcArg (G : X) (e : TypeId) (cts : List CT) : SC → (X → RM) → RM
  | .row r ver, k => .res r fun R => match R.k with
    | .row ety cts' content ver' _ => if entails R.g G && ety == e && CT.beqs cts' cts && ver == ver' then k content else .fail
    | .box .. => .fail
  | .cst (.slice none 0 0), k => k .lnil
  | .x (.sl _ cts') s, k => if CT.beqs cts' cts then k s else .fail
  | _, _ => .fail

def zeroLen (e : TypeId) (n : Nat) : Bool := match zeroCells P e with
  | some z => z.length == n
  | none => false

def effAppend (G : X) (id : Nat) (t : TypeId) (s x : SV) : RM := match P.underlying t with
  | some (.slice e) => match ctsT P 6 e, roomFor P e with
    | some cts, some room => if !sizeEq P e cts.length || cts.length == 0 || !zeroLen P e cts.length then .fail else match x with
      | .c xc => srcArg G e cts xc fun cx => match s with
        | .c (.cst (.slice none 0 0)) => .done ⟨.c (.row id 1), [(id, ⟨G, .row e cts (.bin .cat .lnil cx) 1 false⟩)], [.c (leX (.un .len cx) (.n room))]⟩
        | .c (.row r ver) => .res r fun R => match R.k with
          | .row ety cts' content ver' frz =>
            if isTt G && isTt R.g && !frz && ver == ver' && ety == e && CT.beqs cts' cts then
              .done ⟨.c (.row r (ver + 1)), [(r, ⟨R.g, .row e cts (.bin .cat content cx) (ver + 1) false⟩)], [.c (leX (.un .len (.bin .cat content cx)) (.n room))]⟩
            else .fail
          | .box .. => .fail
        | _ => .fail
      | _ => .fail
    | _, _ => .fail
  | _ => .fail

def partsAt : (k : Nat) → List (Nat × SV) → Bool
  | _, [] => true
  | k, p :: ps => p.1 == k && partsAt (k + 1) ps

def rowsArg (G : X) (cts : List CT) : List (Nat × SV) → (X → List (Nat × Res) → RM) → RM
  | [], k => k .lnil []
  | p :: ps, k => match cellsOf p.2 with
    | some cs => cellsArg G true cts cs fun es wr => rowsArg G cts ps fun r wr' => k (.lcons (consX es) r) (wr ++ wr')
    | none => .fail

def effBuildSlice (G : X) (id : Nat) (t : TypeId) (n : Nat) (parts : List (Nat × SV)) : RM := match P.underlying t with
  | some (.slice e) => match ctsT P 6 e with
    | some cts => if sizeEq P e cts.length && !(cts.length == 0) && parts.length == n && partsAt 0 parts && Nat.ble (n * cts.length) 16777216 && (zeroCells P e).isSome then
      rowsArg G cts parts fun content wr => .done ⟨.c (.row id 1), wr ++ [(id, ⟨G, .row e cts content 1 false⟩)], []⟩
      else .fail
    | none => .fail
  | _ => .fail

def effMakeSlice (G : X) (id : Nat) (t : TypeId) (l c : SV) : RM := match P.underlying t, l, c with
  | some (.slice e), .c (.x (.int .i64) le), .c (.x (.int .i64) ce) => match ctsT P 6 e, roomFor P e, zeroCells P e with
    | some cts, some room, some z => match cellsData cts z with
      | some zs => if X.beq le ce && sizeEq P e cts.length && z.length == cts.length && !(cts.length == 0) then
        .done ⟨.c (.row id 1), [(id, ⟨G, .row e cts (.rep le (consX zs)) 1 false⟩)], [.c (leX (.n 0) le), .c (leX le (.n room))]⟩
        else .fail
      | none => .fail
    | _, _, _ => .fail
  | _, _, _ => .fail

def optInt (d : X) : Option SV → Option X
  | none => some d
  | some (.c (.x (.int _) e)) => some e
  | _ => none

def effSlice (G : X) (t : TypeId) (a : SV) (lo hi mx : Option SV) : RM := match P.underlying t, mx with
  | some (.slice el), none => match a with
    | .c (.x (.sl e cts) s) => match optInt (.n 0) lo, optInt (.un .len s) hi with
      | some l, some h => if sizeEq P el cts.length && !(cts.length == 0) then .done ⟨.c (.x (.sl e cts) (.sub s l h)), [], [.c (leX (.n 0) l), .c (leX l h), .c (leX h (.un .len s))]⟩ else .fail
      | _, _ => .fail
    | .c (.row r ver) => .res r fun R => match R.k with
      | .row e cts s ver' frz => match optInt (.n 0) lo, optInt (.un .len s) hi with
        | some l, some h => if entails R.g G && ver == ver' && sizeEq P el cts.length && !(cts.length == 0) then
          .done ⟨.c (.x (.sl e cts) (.sub s l h)), (if frz then [] else [(r, ⟨R.g, .row e cts s ver' true⟩)]), [.c (leX (.n 0) l), .c (leX l h), .c (leX h (.un .len s))]⟩ else .fail
        | _, _ => .fail
      | .box .. => .fail
    | _ => .fail
  | _, _ => .fail

def effPick (G : X) (c a b : SV) : RM := match c with
  | .c (.x .bool ec) => match strip (andX G ec) a, strip (andX G (notX ec)) b with
    | .c (.x .bool ea), .c (.x .bool eb) => .done ⟨.c (.x .bool (.ite ec ea eb)), [], []⟩
    | _, _ => .fail
  | _ => .fail

def effNilCheck (a : SV) : RM := match a with
  | .c (.ptr ..) | .c (.ea ..) | .c (.pa ..) | .c (.ra ..) | .c (.da ..) | .c (.x (.pt _) _) => .done ⟨a, [], []⟩
  | _ => .fail

def effExtract (a : SV) (i : Nat) : RM := match a with
  | .tup vs => match vs[i]? with
    | some (ag, cs) => .val (mkVal ag cs) []
    | none => .fail
  | _ => .fail

/-- the captured variables of a new function value -/
def capsOf : List SV → Option (List (Nat × Nat))
  | [] => some []
  | .c (.ptr r off) :: vs => (capsOf vs).map ((r, off) :: ·)
  | _ => none
def effMakeFunc (fn : Fn) (first : List SV) (captured : List SV) : RM := match fn, first, capsOf captured with
  | .func f, [], some caps => .done ⟨.c (.fn f caps), [], []⟩
  | _, _, _ => .fail

/-- the key of the calls of function values, by the arguments' types -/
def dynKey (ts : List TypeId) : FuncId := 20000 + ts.foldl (fun a t => a * 1000 + t + 1) 0
def effCallV (G : X) (id : Nat) (ow : Bool) (f : SV) (args : List SV) (ts : List TypeId) : RM := match f with
  | .c (.fn f caps) => if Nat.blt f 20000 then effCall sg G id ow f (args ++ caps.map fun c => .c (.ptr c.1 c.2)) else .fail
  | .c (.x .clo e) => effCall sg G id false (dynKey ts) (.c (.x .clo e) :: args)
  | _ => .fail

/-- the data of cells that are data, with their types -/
def selfData : List SC → Option (List CT × List X)
  | [] => some ([], [])
  | .x ct e :: cs => match selfData cs with
    | some (cts, es) => some (ct :: cts, e :: es)
    | none => none
  | _ => none
/-- a struct as a value of an interface -/
def effMakeIface (t : TypeId) (x : SV) : RM := match P.underlying t, x with
  | some (.struct _), .agg cs => match selfData cs with
    | some (cts, es) => .done ⟨.c (.x .ifc (.clo t cts (consX es))), [], []⟩
    | none => .fail
  | _, _ => .fail
def asCells (t : TypeId) (e : X) : (j : Nat) → List CT → List X → List SC
  | j, ct :: cts, z :: zs => .x ct (.ite (.un (.tag t) e) (.psel j e) z) :: asCells t e (j + 1) cts zs
  | _, _, _ => []
def zeroAgg (t : TypeId) : Bool := match (P.info? t).bind (·.zero) with
  | some (.agg _) => true
  | _ => false
/-- is it a struct of type t? -/
def effTypeAssert (t : TypeId) (x : SV) (ok : Bool) : RM := match P.underlying t, x, ok with
  | some (.struct _), .c (.x .ifc e), true => match ctsT P 6 t, zeroCells P t, zeroAgg P t with
    | some cts, some z, true => match cellsData cts z with
      | some zs => if z.length == cts.length then .done ⟨.tup [(true, asCells t e 0 cts zs), (false, [.x .bool (.un (.tag t) e)])], [], [.ct (.un (.tag t) e) cts e]⟩ else .fail
      | none => .fail
    | _, _, _ => .fail
  | _, _, _ => .fail
/-- the method of a struct type -/
def methF (name : String) (t : TypeId) : Option FuncId := match P.info? t with
  | some i => match i.methods.find? (·.name == name) with
    | some m => match m.func with
      | some (f, false) => match P.underlying t with
        | some (.struct _) => if m.path.isEmpty then some f else none
        | _ => none
      | _ => none
    | none => none
  | none => none
def cands (name : String) : List (TypeId × FuncId) := (List.range P.types.size).filterMap fun t => (methF P name t).map fun f => (t, f)
def psels (e : X) (n : Nat) : List X := (List.range n).map fun j => .psel j e
def rsBeq : List (Bool × List CT) → List (Bool × List CT) → Bool
  | [], [] => true
  | a :: as, b :: bs => a.1 == b.1 && CT.beqs a.2 b.2 && rsBeq as bs
  | _, _ => false
def invOf (rs : List (Bool × List CT)) (e : X) : List (TypeId × FuncId) → Option ((Nat → X) × List Nd)
  | [] => some (fun _ => .n 0, [])
  | (t, f) :: l => match sg f, invOf rs e l with
    | some S, some (mk, nds) => match S.ps with
      | [(true, cts)] => if S.pc.isEmpty && !S.w.isSome && rsBeq S.rs rs && Nat.blt f 20000 && oNs S.rs == 0 then
          some (fun j => .ite (.un (.tag t) e) (.app f (consX (psels e cts.length)) j) (mk j), .ct (.un (.tag t) e) cts e :: .pg (.un (.tag t) e) f (consX (psels e cts.length)) :: nds) else none
      | _ => none
    | _, _ => none
def anyTag (e : X) : List (TypeId × FuncId) → X
  | [] => .t false
  | (t, _) :: l => .ite (.un (.tag t) e) (.t true) (anyTag e l)
/-- the call of a method without arguments -/
def effInvoke (x : SV) (name : String) : RM := match x with
  | .c (.x .ifc e) => match cands P name with
    | (t, f) :: l => match sg f with
      | some S => match invOf sg S.rs e ((t, f) :: l), S.rs with
        | some (mk, nds), rs => match resSVO mk 0 rs with
          | some v => .done ⟨v, [], .c (anyTag e ((t, f) :: l)) :: nds⟩
          | none => .fail
        | none, _ => .fail
      | none => .fail
    | [] => .fail
  | _ => .fail

/-- a function that is named -/
def ownFn : Operand → Bool
  | .func _ => true
  | _ => false

/-- What one operation does under the guard G. 'arg': its operands. -/
def eff (G : X) (id : Nat) (arg : Operand → SV) (o : Op) : RM := match o with
  | .move x | .assign x => .done ⟨arg x, [], []⟩
  | .pick c a b => effPick G (arg c) (arg a) (arg b)
  | .alloc e => match zeroCells P e with
    | some cs => .done ⟨.c (.ptr id 0), [(id, ⟨G, .box e cs false⟩)], []⟩
    | none => .fail
  | .box e x => match cellsOf (arg x) with
    | some cs => if noAny cs then .done ⟨.c (.ptr id 0), [(id, ⟨G, .box e cs false⟩)], []⟩ else .fail
    | none => .fail
  | .build t ps => effBuild P t (ps.toList.map fun p => (p.1, arg p.2))
  | .buildSlice t n ps => effBuildSlice P G id t n (ps.toList.map fun p => (p.1, arg p.2))
  | .load t a => effLoad P G t (arg a)
  | .store t a v => effStore P G t (arg a) (arg v)
  | .nilCheck x => effNilCheck (arg x)
  | .binOp op t x y _ => effBin P op t (arg x) (arg y)
  | .unOp op _ x => effUn op (arg x)
  | .convert s d x => effConvertB P s d (arg x)
  | .fieldAddr s x f => effFieldAddr P s (arg x) f
  | .field t x f => effField P t (arg x) f
  | .indexAddr t x i => effIndexAddr P G t (arg x) (arg i)
  | .index t x i => effIndex P t (arg x) (arg i)
  | .extract x i => effExtract (arg x) i
  | .makeSlice t l c => effMakeSlice P G id t (arg l) (arg c)
  | .slice t x lo hi mx => effSlice P G t (arg x) (lo.map arg) (hi.map arg) (mx.map arg)
  | .makeInterface t x => effMakeIface P t (arg x)
  | .typeAssert x _ t ok => effTypeAssert P t (arg x) ok
  | .makeFunc fn first captured => effMakeFunc fn (first.toList.map arg) (captured.toList.map arg)
  | .call c => match c.callee with
    | .builtin .len => match c.args.toList, c.argTypes.toList with
      | [x], [t] => effLen P G t (arg x)
      | _, _ => .fail
    | .builtin .min => match c.args.toList.map arg with
      | v :: vs => if isInt v then .val (minmax .min v vs) [] else .fail
      | [] => .fail
    | .builtin .max => match c.args.toList.map arg with
      | v :: vs => if isInt v then .val (minmax .max v vs) [] else .fail
      | [] => .fail
    | .builtin .append => match c.args.toList, c.argTypes.toList with
      | [s, x], [t, t'] => if t == t' then effAppend P G id t (arg s) (arg x) else .fail
      | _, _ => .fail
    | .value x => effCallV sg G id (ownFn x) (arg x) (c.args.toList.map arg) c.argTypes.toList
    | .invoke recv name => if c.args.isEmpty then effInvoke P sg (arg recv) name else .fail
    | _ => .fail
  | _ => .fail

/-- how many resources an operation makes -/
def makes : Op → Nat
  | .alloc _ | .box .. | .buildSlice .. | .makeSlice .. => 1
  | .call { callee := .builtin .append, .. } => 1
  | .call { callee := .value (.func f), .. } => match sg f with
    | some S => oNs S.rs
    | none => 0
  | _ => 0

/-- the operations of a region with the numbers of the resources that they make -/
def number : Nat → List Oper → List (Oper × Nat)
  | _, [] => []
  | k, o :: os => (o, k) :: number (k + makes sg o.op) os
def countMakes : List Oper → Nat
  | [] => 0
  | o :: os => makes sg o.op + countMakes os

structure Foot where
  sr : List Nat
  sw : List Nat
  rr : List Nat
  rw : List Nat

def setAll (rs : List (Option Res)) : List (Nat × Res) → List (Option Res)
  | [] => rs
  | p :: ps => setAll (rs.set p.1 (some p.2)) ps

def putSlot (sl : List SV) (dst : Option Tmp) (v : SV) : List SV := match dst with
  | some d => sl.set d v
  | none => sl

def guardOf (ops : List Oper) (σ : St) (o : Oper) : Option X := match o.guard with
  | none => some tt
  | some (j, want) => match (ops[j]?).bind (·.dst) with
    | some d => guardX want (σ.slots.getD d .und)
    | none => some (.t false)

def tmpsOf (l : List Operand) : List Nat := l.filterMap fun | .tmp t => some t | _ => none
def guardTmp (ops : List Oper) (o : Oper) : List Nat := match o.guard with
  | none => []
  | some (j, _) => match (ops[j]?).bind (·.dst) with
    | some d => [d]
    | none => []

variable (wok : Nat → Bool)

def dstOk (dst : Option Tmp) : Bool := match dst with
  | some d => wok d
  | none => true

def isFf : X → Bool | .t b => !b | _ => false

/-- what an operation makes is not there yet -/
def freshOk (o : Oper) (id : Nat) (rs : List (Option Res)) : Bool := (List.range (makes sg o.op)).all fun i => match rs[id + i]? with
  | some none => true
  | _ => false

/-- one operation of a region -/
def stepOp (ops : List Oper) (o : Oper) (id : Nat) (σ : St) : Option (St × List (X × Nd)) := match guardOf ops σ o with
  | none => none
  | some G => if !dstOk wok o.dst || !freshOk sg o id σ.res then none else
    if isFf G then some (⟨putSlot σ.slots o.dst .und, σ.res⟩, []) else
    match (eff P sg G id (fun x => strip G (σ.opd x)) o.op).run σ.res with
    | none => none
    | some eo => some (⟨putSlot σ.slots o.dst (if isTt G then eo.val else .grd G eo.val), setAll σ.res eo.wr⟩, eo.nd.map fun n => (G, n))

def footOf (ops : List Oper) (o : Oper) (id : Nat) (σ : St) : Foot :=
  let sr := tmpsOf o.op.operands.toList ++ guardTmp ops o
  let sw := o.dst.toList
  let own := (List.range (makes sg o.op)).map (id + ·)
  match guardOf ops σ o with
  | none => ⟨sr, sw, own, []⟩
  | some G => if isFf G then ⟨sr, sw, own, []⟩ else
    let m := eff P sg G id (fun x => strip G (σ.opd x)) o.op
    ⟨sr, sw, own ++ m.reads σ.res, match m.run σ.res with | some eo => eo.wr.map (·.1) | none => []⟩

def runOps (ops : List Oper) : List (Oper × Nat) → St → Option (St × List (X × Nd) × List Foot)
  | [], σ => some (σ, [], [])
  | (o, id) :: rest, σ => match stepOp P sg wok ops o id σ with
    | none => none
    | some (σ', nd) => match runOps ops rest σ' with
      | none => none
      | some (σ'', nd', fs) => some (σ'', nd ++ nd', footOf P sg ops o id σ :: fs)

def disj (a b : List Nat) : Bool := a.all fun x => !b.contains x
def indep (f g : Foot) : Bool := disj f.sw g.sr && disj f.sw g.sw && disj g.sw f.sr && disj f.rw g.rr && disj f.rw g.rw && disj g.rw f.rr

def waits (o : Oper) (i : Nat) : Bool := o.after.toList.any fun e => Region.binds .any e && e.on == i

def preds (o : Oper) : List Nat := o.after.toList.filterMap fun e => if Region.binds .any e then some e.on else none
/-- does i stand before, in every order, by way of other operations? -/
def reachB (ops : List Oper) (i : Nat) : Nat → List Nat → Bool
  | 0, S => S.contains i
  | k + 1, S => S.contains i || reachB ops i k (if S.contains k then (match ops[k]? with | some o => preds o ++ S | none => S) else S)
def before (ops : List Oper) (o : Oper) (i : Nat) : Bool := reachB ops i ops.length (preds o)

/-- operation i against all that stand behind it -/
def freeOf (ops : List Oper) (i : Nat) (f : Foot) : List (Oper × Foot) → Bool
  | [] => true
  | (o, g) :: rest => (waits o i || indep f g || before ops o i) && freeOf ops i f rest
def allFree (ops : List Oper) : Nat → List (Oper × Foot) → Bool
  | _, [] => true
  | i, (o, f) :: rest => o.after.toList.all (fun e => !Region.binds .any e || Nat.blt e.on i) && freeOf ops i f rest && allFree ops (i + 1) rest

def noSelects (ops : List Oper) : Bool := ops.all fun o => match o.op with
  | .select .. => false
  | _ => true

def regionEx0 (ops : Array Oper) (draw : Bool) (σ : St) : Option (St × List (X × Nd)) :=
  let l := ops.toList
  let σ0 : St := ⟨σ.slots, σ.res ++ List.replicate (countMakes sg l) none⟩
  match runOps P sg wok l (number sg σ.res.length l) σ0 with
  | none => none
  | some (σ', nd, fs) => if !draw || (noSelects l && allFree l 0 (l.zip fs)) then some (σ', nd) else none

/-- rows that are read as data from here on -/
def frzRow (l : List (Option Res)) (r : Nat) : List (Option Res) := match l.getD r none with
  | some ⟨g, .row e cts c v false⟩ => if isTt g then l.set r (some ⟨g, .row e cts c v true⟩) else l
  | _ => l
def frzRows (rs : List Nat) (σ : St) : St := ⟨σ.slots, rs.foldl frzRow σ.res⟩
def isSlice (o : Oper) : Bool := match o.op with
  | .slice .. => true
  | _ => false
/-- the rows that two operations of a region freeze -/
def twice (ops : List Oper) (σ : St) : List Nat := if Nat.blt (ops.countP isSlice) 2 then [] else
  match runOps P sg wok ops (number sg σ.res.length ops) ⟨σ.slots, σ.res ++ List.replicate (countMakes sg ops) none⟩ with
  | none => []
  | some (_, _, fs) =>
    let ws := (ops.zip fs).flatMap fun p => if isSlice p.1 then p.2.rr else []
    (List.range σ.res.length).filter fun r => Nat.blt 1 (ws.count r)
def regionEx (ops : Array Oper) (draw : Bool) (σ : St) : Option (St × List (X × Nd)) := regionEx0 P sg wok ops draw (frzRows (twice P sg wok ops.toList σ) σ)

/-! ### names for what calls give -/
def SC.under (n : Nat) : SC → Bool
  | .x _ e => e.under n
  | .ea _ _ s i _ => s.under n && i.under n
  | .pa _ p _ => p.under n
  | .ra _ _ _ i _ => i.under n
  | .da _ _ _ i => i.under n
  | _ => true
def SC.repl (c : X) (n k : Nat) : SC → SC
  | .x ct e => .x ct (e.repl c n k)
  | .ea t cts s i off => .ea t cts (s.repl c n k) (i.repl c n k) off
  | .pa cts p off => .pa cts (p.repl c n k) off
  | .ra r ver m i off => .ra r ver m (i.repl c n k) off
  | .da r b m i => .da r b m (i.repl c n k)
  | s => s
def SV.under (n : Nat) : SV → Bool
  | .c s => s.under n
  | .agg cs => cs.all (SC.under n)
  | .tup vs => vs.all fun v => v.2.all (SC.under n)
  | .grd g s => g.under n && SV.under n s
  | _ => true
def SV.repl (c : X) (n k : Nat) : SV → SV
  | .c s => .c (s.repl c n k)
  | .agg cs => .agg (cs.map (SC.repl c n k))
  | .tup vs => .tup (vs.map fun v => (v.1, v.2.map (SC.repl c n k)))
  | .grd g s => .grd (g.repl c n k) (SV.repl c n k s)
  | s => s
def RK.under (n : Nat) : RK → Bool
  | .box _ cells _ => cells.all (SC.under n)
  | .row _ _ x _ _ => x.under n
def RK.repl (c : X) (n k : Nat) : RK → RK
  | .box e cells z => .box e (cells.map (SC.repl c n k)) z
  | .row e cts x ver z => .row e cts (x.repl c n k) ver z
def Res.under (n : Nat) (x : Res) : Bool := x.g.under n && x.k.under n
def Res.repl (c : X) (n k : Nat) (x : Res) : Res := ⟨x.g.repl c n k, x.k.repl c n k⟩
def St.under (n : Nat) (σ : St) : Bool := σ.slots.all (SV.under n) && σ.res.all fun | some x => x.under n | none => true
def St.repl (c : X) (n k : Nat) (σ : St) : St := ⟨σ.slots.map (SV.repl c n k), σ.res.map (Option.map (Res.repl c n k))⟩
def Nd.under (n : Nat) : Nd → Bool
  | .c x => x.under n
  | .pre _ as => as.under n
  | .pg g _ as => g.under n && as.under n
  | .ct g _ e => g.under n && e.under n
def Nd.repl (c : X) (n k : Nat) : Nd → Nd
  | .c x => .c (x.repl c n k)
  | .pre f as => .pre f (as.repl c n k)
  | .pg g f as => .pg (g.repl c n k) f (as.repl c n k)
  | .ct g cts e => .ct (g.repl c n k) cts (e.repl c n k)

inductive OT where
  | fin (k : EK) (σ : St)
  | need (g : X) (n : Nd) (t : OT)
  | ite (c : X) (a b : OT)
  | lt (c : X) (k : Nat) (t : OT)
  | fail

/-- 'n': how many variables there are -/
def OT.bind (n : Nat) : OT → (EK → Nat → St → OT) → OT
  | .fin k σ, f => f k n σ
  | .need g d t, f => .need g d (t.bind n f)
  | .ite c a b, f => .ite c (a.bind n f) (b.bind n f)
  | .lt c k t, f => .lt c k (t.bind (n + k) f)
  | .fail, _ => .fail

def Sig.width (S : Sig) : Nat := match rowOf S with
  | some _ => 1
  | none => (S.rs.map fun r => r.2.length).sum

/-- the call that a need tells of, and how many data it gives -/
def callOf : Nd → Option (X × Nat)
  | .pre f as => match sg f with
    | some S => some (.app f as 0, S.w.getD S.width)
    | none => none
  | _ => none

def ndsBelow (n : Nat) (nds : List (X × Nd)) : Bool := nds.all fun d => d.1.under n && d.2.under n

/-- what a region asks for, and a name for what each call gives -/
def share : (fuel : Nat) → (n : Nat) → List (X × Nd) → St → OT
  | _, _, [], σ => .fin .normal σ
  | 0, _, _ :: _, _ => .fail
  | fuel + 1, n, d :: nds, σ => match callOf sg d.2 with
    | none => .need d.1 d.2 (share fuel n nds σ)
    | some (c, k) =>
      if k == 0 then .need d.1 d.2 (share fuel n nds σ)
      else if St.under n σ && ndsBelow n nds && c.under n then
        .need d.1 d.2 (.lt c k (share fuel (n + k) (nds.map fun m => (m.1.repl c n k, m.2.repl c n k)) (St.repl c n k σ)))
      else .fail

/-- the number of the first region of a loop's body: the loop's name -/
def firstRegion : Code → Option Nat
  | .region id _ _ => some id
  | .seq a b => match firstRegion a with
    | some r => some r
    | none => firstRegion b
  | .block _ a => firstRegion a
  | .scope a => firstRegion a
  | .loop a => firstRegion a
  | .cond _ a _ => firstRegion a
  | _ => none

end

def nilsAt (P : Program) : List (Nat × Option Nat × TypeId) → St → Option St
  | [], σ => some σ
  | p :: ps, σ => match ctsT P 6 p.2.2 with
    | some cts => match nilAt σ (p.1, p.2.1) p.2.2 cts with
      | some σ' => nilsAt P ps σ'
      | none => none
    | none => none

def exitsOT (c : X) (σ : St) : (k : Nat) → List EK → OT
  | _, [] => .fail
  | _, [e] => .fin e σ
  | k, e :: es => .ite (.bin .eq c (.n k)) (.fin e σ) (exitsOT c σ (k + 1) es)

section
variable (P : Program) (sg : FuncId → Option Sig) (wok : Nat → Bool) (lt : Nat → Option LoopSig)

def Code.dsts : Code → List Nat
  | .region _ ops _ => ops.toList.filterMap (·.dst)
  | .seq a b => Code.dsts a ++ Code.dsts b
  | .cond _ a b => Code.dsts a ++ Code.dsts b
  | .block _ a => Code.dsts a
  | .scope a => Code.dsts a
  | .loop a => Code.dsts a
  | _ => []

/-- the bodies of a code's loops -/
def Code.loops : Code → List Code
  | .seq a b => Code.loops a ++ Code.loops b
  | .cond _ a b => Code.loops a ++ Code.loops b
  | .block _ a => Code.loops a
  | .scope a => Code.loops a
  | .loop a => a :: Code.loops a
  | _ => []

def loopEx (body : Code) (n : Nat) (σ : St) : OT := match (firstRegion body).bind lt with
  | none => .fail
  | some L => match nilsAt P L.nils σ with
    | none => .fail
    | some σ1 => match matchHead L.head L.nv σ1 with
      | none => .fail
      | some args =>
        let c : X := .app L.key (consX args) 0
        let k := L.wv.length + 1
        let σ2 := afterLoop L args σ1
        if L.ws.all wok && c.under n && St.under n σ2 then .need tt (.pre L.key (consX args)) (.lt c k (exitsOT (.var n) (St.repl c n k σ2) 0 L.exits)) else .fail

def ex : Code → Nat → St → OT
  | .skip, _, σ => .fin .normal σ
  | .region _ ops draw, n, σ => match regionEx P sg wok ops draw σ with
    | some (σ', nd) => share sg nd.length n nd σ'
    | none => .fail
  | .seq a b, n, σ => (ex a n σ).bind n fun k n' σ' => match k with
    | .normal => ex b n' σ'
    | k => .fin k σ'
  | .cond c a b, n, σ => match σ.opd c with
    | .c (.x .bool e) => match e with
      | .t true => ex a n σ
      | .t false => ex b n σ
      | e => .ite e (ex a n σ) (ex b n σ)
    | _ => .fail
  | .block id a, n, σ => (ex a n σ).bind n fun k _ σ' => if k = .exit id then .fin .normal σ' else .fin k σ'
  | .loop a, n, σ => loopEx P wok lt a n σ
  | .exit id, _, σ => .fin (.exit id) σ
  | .ret, _, σ => .fin .ret σ
  | _, _, _ => .fail

/-! ### What is left of a run: conditions on data -/
inductive VT where
  | ret (as : X)
  | need (g : X) (n : Nd) (t : VT)
  | ite (c : X) (a b : VT)
  | lt (c : X) (k : Nat) (t : VT)
  | bad

def OT.vt (leaf : EK → St → VT) : OT → VT
  | .fin k σ => leaf k σ
  | .need g n t => .need g n (t.vt leaf)
  | .ite c a b => .ite c (a.vt leaf) (b.vt leaf)
  | .lt c k t => .lt c k (t.vt leaf)
  | .fail => .bad

/-- the results as data: 'none' where a result isn't data of its type -/
def cellRes (rs : List (Option Res)) : CT → SC → Option X
  | .sl e cts, .row r ver => match rs.getD r none with
    | some ⟨g, .row ety cts' content ver' _⟩ => if isTt g && ety == e && CT.beqs cts' cts && ver == ver' then some content else none
    | _ => none
  | .sl _ _, .cst (.slice none 0 0) => some .lnil
  | ct, .x ct' e => if CT.beq ct' ct then some e else none
  | _, _ => none
def cellsRes (rs : List (Option Res)) : List CT → List SC → Option (List X)
  | [], [] => some []
  | ct :: cts, c :: cs => match cellRes rs ct c, cellsRes rs cts cs with
    | some a, some b => some (a :: b)
    | _, _ => none
  | _, _ => none
def resOne (rs : List (Option Res)) (ag : Bool) (cts : List CT) (v : SV) : Option (List X) := match argCells ag v with
  | some cs => cellsRes rs cts cs
  | none => none
def resSlot (σ : St) : ResultVar → Option SV
  | .tmp t => some (σ.slots.getD t .und)
  | .cell x t => match σ.slots.getD x .und, sizeT P t, aggT P t with
    | .c (.ptr r off), some n, some ag => match σ.res.getD r none with
      | some ⟨g, .box _ cells _⟩ => if isTt g && Nat.ble (off + n) cells.length then mkVal ag ((cells.drop off).take n) else none
      | _ => none
    | _, _, _ => none
def resAll (σ : St) : List (Bool × List CT) → List ResultVar → Option (List X)
  | [], [] => some []
  | r :: rs, v :: vs => match resSlot P σ v with
    | some s => match resOne σ.res r.1 r.2 s, resAll σ rs vs with
      | some a, some b => some (a ++ b)
      | _, _ => none
    | none => none
  | _, _ => none

/-- results with rows that the caller may go on writing: 'own' -/
def cellResO (own : List Nat) (rs : List (Option Res)) : CT → SC → Option X
  | .osl e cts, .row r ver => match rs.getD r none with
    | some ⟨g, .row ety cts' content ver' false⟩ => if isTt g && ety == e && CT.beqs cts' cts && ver == ver' && own.contains r then some content else none
    | _ => none
  | .osl _ _, .cst (.slice none 0 0) => some .lnil
  | .osl _ _, _ => none
  | .sl e cts, .row r ver => if own.contains r then none else cellRes rs (.sl e cts) (.row r ver)
  | ct, s => cellRes rs ct s
def cellsResO (own : List Nat) (rs : List (Option Res)) : List CT → List SC → Option (List X)
  | [], [] => some []
  | ct :: cts, c :: cs => match cellResO own rs ct c, cellsResO own rs cts cs with
    | some a, some b => some (a :: b)
    | _, _ => none
  | _, _ => none
def ownCells : List CT → List SC → List Nat
  | .osl _ _ :: cts, .row r _ :: cs => r :: ownCells cts cs
  | _ :: cts, _ :: cs => ownCells cts cs
  | _, _ => []
def slotCells (σ : St) (r : Bool × List CT) (v : ResultVar) : Option (List SC) := match resSlot P σ v with
  | some s => argCells r.1 s
  | none => none
def resAllO (own : List Nat) (σ : St) : List (Bool × List CT) → List ResultVar → Option (List X)
  | [], [] => some []
  | r :: rs, v :: vs => match slotCells P σ r v with
    | some cs => match cellsResO own σ.res r.2 cs, resAllO own σ rs vs with
      | some a, some b => some (a ++ b)
      | _, _ => none
    | none => none
  | _, _ => none
def ownAll (σ : St) : List (Bool × List CT) → List ResultVar → List Nat
  | r :: rs, v :: vs => (match slotCells P σ r v with | some cs => ownCells r.2 cs | none => []) ++ ownAll σ rs vs
  | _, _ => []
def nodupB : List Nat → Bool
  | [] => true
  | r :: rs => !rs.contains r && nodupB rs

def fnLeaf (S : Sig) (rv : List ResultVar) : EK → St → VT
  | .normal, σ | .ret, σ => if oNs S.rs == 0 then (match resAll P σ S.rs rv with
    | some xs => .ret (consX xs)
    | none => .bad) else if nodupB (ownAll P σ S.rs rv) then (match resAllO P (ownAll P σ S.rs rv) σ S.rs rv with
    | some xs => .ret (consX xs)
    | none => .bad) else .bad
  | _, _ => .bad

def initCells : (j : Nat) → List CT → List SC
  | _, [] => []
  | j, ct :: cts => .x ct (.var j) :: initCells (j + 1) cts
def initSlots : (j : Nat) → List (Bool × List CT) → List SV
  | _, [] => []
  | j, p :: ps => (match mkVal p.1 (initCells j p.2) with | some s => s | none => .any) :: initSlots (j + p.2.length) ps
def initSt (ps : List (Bool × List CT)) (ntmps : Nat) : St := ⟨initSlots 0 ps ++ List.replicate (ntmps - ps.length) .und, []⟩

/-- the run of a function -/
def fnVT (S : Sig) (fn : Func) (c : Code) : VT := (ex P sg (fun _ => true) lt c (S.ps.map fun p => p.2.length).sum (initSt S.ps fn.ntmps)).vt (fnLeaf P S fn.results.toList)

def sameVars (wv : List Nat) : (i : Nat) → List X → Bool
  | _, [] => true
  | i, x :: xs => (wv.contains i || X.beq x (.var i)) && sameVars wv (i + 1) xs
/-- rows whose content does not turn are the rows that they were -/
def sameRows (L : LoopSig) (σ : St) : (r : Nat) → List (Option Res) → Bool
  | _, [] => true
  | r, some ⟨_, .row _ _ (.var i) ver _⟩ :: rs => (L.hv.contains i || match σ.res.getD r none with
    | some ⟨_, .row _ _ _ ver' _⟩ => ver == ver'
    | _ => false) && sameRows L σ (r + 1) rs
  | r, _ :: rs => sameRows L σ (r + 1) rs

def ekPos (k : EK) : List EK → Option Nat
  | [] => none
  | e :: es => if e = k then some 0 else (ekPos k es).map (· + 1)

/-- two rows change places -/
def swapSlot (r q v v' : Nat) : SV → SV
  | .c (.row p u) => if p == q && u == v' then .c (.row r (v + 1)) else .c (.row p u)
  | s => s
def rowSwap (σ : St) (p : Nat × Nat) : St := match σ.res.getD p.1 none, σ.res.getD p.2 none with
  | some ⟨g, .row e c x v z⟩, some ⟨g', .row e' c' x' v' z'⟩ => if isTt g && isTt g' && !(p.1 == p.2) then
      ⟨σ.slots.map (swapSlot p.1 p.2 v v'), (σ.res.set p.1 (some ⟨g', .row e' c' x' (v + 1) z'⟩)).set p.2 (some ⟨g, .row e c x (v' + 1) z⟩)⟩ else σ
  | _, _ => σ
def swapsOf (hd σ : St) : List (Nat × Nat) := ((hd.slots.zip σ.slots).filterMap fun
  | (.c (.row r _), .c (.row q _)) => if r == q || listed hd.res q then none else some (r, q)
  | _ => none).eraseDups
/-- rows that stand in place of the head's rows take their places -/
def alignRows (hd σ : St) : St := (swapsOf hd σ).foldl rowSwap σ

def loopLeaf0 (L : LoopSig) (k : EK) (σ : St) : VT := match matchHead L.head L.nv σ with
  | none => .bad
  | some args => if sameVars L.wv 0 args && sameRows L σ 0 L.head.res then
      let vals := consX (L.wv.map fun i => args.getD i .nil)
      if k = .normal then .ret (.cons (.n (-1)) vals) else match ekPos k L.exits with
        | some j => .ret (.cons (.n j) vals)
        | none => .bad
    else .bad
def loopLeaf (L : LoopSig) : EK → St → VT := fun k σ => loopLeaf0 L k (alignRows L.head σ)

/-- one round of a loop -/
def loopVT (L : LoopSig) (body : Code) : VT := (ex P sg (fun n => L.ws.contains n) lt body L.nv L.head).vt (loopLeaf L)

end
end Go.RV
