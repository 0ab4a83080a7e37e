/-
  The functions of the program as they are run: printed by program.
-/
import Derived.Test.YtindllmeeckfcaaChecked
import Derived.Test.YtindllmeeckfcaaZCompoundApartI
namespace Go.Proofs.Ytindllmeeckfcaa.rv
open Go.RV
set_option maxRecDepth 100000
abbrev i6 : CT := .int .i64
theorem mixed : Try.prog.follows .mixedOrders = true := by kernel_rfl
def S20041 : Sig := ⟨[(false, [.clo]), (true, [i6, i6, i6, i6])], [(false, [.bool])], [], none⟩
def S20039 : Sig := ⟨[(false, [.clo]), (true, [.str, .str, i6, i6, i6, (.sl 53 [.str, i6])])], [(false, [.bool])], [], none⟩
def S20051 : Sig := ⟨[(false, [.clo]), (true, [.str, i6])], [(false, [.bool])], [], none⟩
def S20054 : Sig := ⟨[(false, [.clo]), (true, [.str, i6])], [(false, [.bool])], [], none⟩
def S8 : Sig := ⟨[(true, [.str, .bool, (.sl 38 [.str, .str, i6, i6, i6, (.sl 53 [.str, i6])]), (.sl 55 [i6, i6, i6, i6, .str, i6, i6]), (.sl 50 [.str, i6])]), (false, [i6]), (false, [i6])], [(false, [.bool])], [], none⟩
noncomputable def c8 : Code := Try.f8.body.getD .skip
theorem b8 : Try.f8.body = some c8 := body_some (by kernel_rfl)
theorem n8 : (Try.f8.name == "runtime.NumGoroutine") = false := by kernel_rfl
def sg8 : List (FuncId × Sig) := []
def L8_0 : LoopSig := ⟨10801, [],
   ⟨[.any, .any, .any, (.c (.ptr 0 0)), .any, .any, (.c (.x .bool (.var 0))), (.c (.x i6 (.var 1))), .any, .any, .any, .any, .any, .any, .any, .any, .any, .any, .any, .any, .any, .any, .any, .any, .any, .any, .any, .any, .any, .any, .any, .any, .any, .any, .any, .any, .any, .any, .any, .any, .any, .any, .any, .any, .any, .any, .any, .any, .any, .any, .any, .any, .any, .any, .any, .any, .any, .any, .any, .any, .any, .any, .any, .any, .any, .any, .any, .any, .any, .any, .any, .any, .any, .any, .any, .any, .any, .any, .any, .any, .any, .any, .any, .any, .any, .any, .any, .any, .any, .any, .any, .any, .any, .any, .any, .any, .any, .any, .any, .any, .any, .any, .any, .any, .any, .any, .any, .any, .any, .any, .any, .any, .any, .any, .any, .any, .any, .any],
    [some ⟨(.t true), (.box 26 [(.x .str (.var 2)), (.x .bool (.var 3)), (.x (.sl 38 [.str, .str, i6, i6, i6, (.sl 53 [.str, i6])]) (.var 4)), (.x (.sl 55 [i6, i6, i6, i6, .str, i6, i6]) (.var 5)), (.x (.sl 50 [.str, i6]) (.var 6))] false)⟩]⟩,
   7, [0, 1], [36, 37, 38, 39, 40, 43, 44, 45, 46, 47, 8, 48, 49, 50, 51, 52, 53, 54, 55, 56, 57, 58, 59, 60, 61, 62, 63, 6, 9, 64, 65, 66, 67, 68, 71, 72, 73, 74, 75, 76, 77, 78, 69, 70, 41, 42, 7], [.ret, (.exit 0)], []⟩
def L8_1 : LoopSig := ⟨10800, [],
   ⟨[.any, .any, .any, .any, .any, .any, (.c (.x .bool (.var 0))), .any, (.c (.ptr 1 0)), (.c (.x i6 (.var 1))), .any, .any, .any, .any, .any, .any, .any, .any, .any, .any, .any, .any, .any, .any, .any, .any, .any, .any, .any, .any, .any, .any, .any, .any, .any, .any, .any, .any, .any, .any, .any, .any, .any, .any, .any, .any, .any, .any, .any, .any, .any, .any, .any, .any, .any, .any, .any, .any, .any, .any, .any, .any, .any, .any, .any, .any, .any, .any, .any, .any, .any, .any, .any, .any, .any, .any, .any, .any, .any, .any, .any, .any, .any, .any, .any, .any, .any, .any, .any, .any, .any, .any, .any, .any, .any, .any, .any, .any, .any, .any, .any, .any, .any, .any, .any, .any, .any, .any, .any, .any, .any, .any, .any, .any, .any, .any, .any, .any],
    [none, some ⟨(.t true), (.box 38 [(.x .str (.var 2)), (.x .str (.var 3)), (.x i6 (.var 4)), (.x i6 (.var 5)), (.x i6 (.var 6)), (.x (.sl 53 [.str, i6]) (.var 7))] false)⟩]⟩,
   8, [0, 1], [64, 65, 66, 67, 68, 71, 72, 73, 74, 75, 76, 77, 78, 6, 69, 70, 9], [.ret, (.exit 2)], []⟩
def L8_2 : LoopSig := ⟨10802, [],
   ⟨[.any, .any, .any, (.c (.ptr 0 0)), .any, .any, (.c (.x .bool (.var 0))), .any, .any, .any, (.c (.x i6 (.var 1))), .any, .any, .any, .any, .any, .any, .any, .any, .any, .any, .any, .any, .any, .any, .any, .any, .any, .any, .any, .any, .any, .any, .any, .any, .any, .any, .any, .any, .any, .any, .any, .any, .any, .any, .any, .any, .any, .any, .any, .any, .any, .any, .any, .any, .any, .any, .any, .any, .any, .any, .any, .any, .any, .any, .any, .any, .any, .any, .any, .any, .any, .any, .any, .any, .any, .any, .any, .any, .any, .any, .any, .any, .any, .any, .any, .any, .any, .any, .any, .any, .any, .any, .any, .any, .any, .any, .any, .any, .any, .any, .any, .any, .any, .any, .any, .any, .any, .any, .any, .any, .any, .any, .any, .any, .any, .any, .any],
    [some ⟨(.t true), (.box 26 [(.x .str (.var 2)), (.x .bool (.var 3)), (.x (.sl 38 [.str, .str, i6, i6, i6, (.sl 53 [.str, i6])]) (.var 4)), (.x (.sl 55 [i6, i6, i6, i6, .str, i6, i6]) (.var 5)), (.x (.sl 50 [.str, i6]) (.var 6))] false)⟩]⟩,
   7, [0, 1], [79, 80, 81, 82, 83, 86, 87, 88, 89, 90, 91, 92, 93, 94, 95, 96, 97, 98, 99, 100, 101, 102, 6, 84, 85, 10], [.ret, (.exit 4)], []⟩
def L8_3 : LoopSig := ⟨10803, [],
   ⟨[.any, .any, .any, (.c (.ptr 0 0)), .any, .any, (.c (.x .bool (.var 0))), .any, .any, .any, .any, (.c (.x i6 (.var 1))), .any, .any, .any, .any, .any, .any, .any, .any, .any, .any, .any, .any, .any, .any, .any, .any, .any, .any, .any, .any, .any, .any, .any, .any, .any, .any, .any, .any, .any, .any, .any, .any, .any, .any, .any, .any, .any, .any, .any, .any, .any, .any, .any, .any, .any, .any, .any, .any, .any, .any, .any, .any, .any, .any, .any, .any, .any, .any, .any, .any, .any, .any, .any, .any, .any, .any, .any, .any, .any, .any, .any, .any, .any, .any, .any, .any, .any, .any, .any, .any, .any, .any, .any, .any, .any, .any, .any, .any, .any, .any, .any, .any, .any, .any, .any, .any, .any, .any, .any, .any, .any, .any, .any, .any, .any, .any],
    [some ⟨(.t true), (.box 26 [(.x .str (.var 2)), (.x .bool (.var 3)), (.x (.sl 38 [.str, .str, i6, i6, i6, (.sl 53 [.str, i6])]) (.var 4)), (.x (.sl 55 [i6, i6, i6, i6, .str, i6, i6]) (.var 5)), (.x (.sl 50 [.str, i6]) (.var 6))] false)⟩]⟩,
   7, [0, 1], [103, 104, 105, 106, 107, 110, 111, 112, 113, 114, 115, 116, 117, 6, 108, 109, 11], [.ret, (.exit 6)], []⟩
def lt8 : List (Nat × LoopSig) := [(4, L8_0), (10, L8_1), (15, L8_2), (20, L8_3)]
theorem k8 : (Code.loops c8).length = 4 := by kernel_rfl
noncomputable def lb8_0 : Code := (Code.loops c8).getD 0 .skip
noncomputable def lb8_1 : Code := (Code.loops c8).getD 1 .skip
noncomputable def lb8_2 : Code := (Code.loops c8).getD 2 .skip
noncomputable def lb8_3 : Code := (Code.loops c8).getD 3 .skip
def rt8_0 : VT :=
  (.ite (.bin .lt (.var 1) (.un .len (.var 4)))
   (.need (.t true) (.c (.bin .le (.n 0) (.var 1)))
   (.ite (.ite (.ite (.bin .lt (.n 40) (.un .slen (.sel 0 (.var 4) (.var 1)))) (.t true) (.bin .lt (.n 80) (.un .slen (.sel 1 (.var 4) (.var 1))))) (.t true) (.bin .lt (.n 9) (.un .len (.sel 5 (.var 4) (.var 1)))))
    (.ret (.cons (.n 0) (.cons (.t false) (.cons (.var 1) .nil))))
    (.need (.t true) (.pre 10800 (.cons (.var 0) (.cons (.n 0) (.cons (.sel 0 (.var 4) (.var 1)) (.cons (.sel 1 (.var 4) (.var 1)) (.cons (.sel 2 (.var 4) (.var 1)) (.cons (.sel 3 (.var 4) (.var 1)) (.cons (.sel 4 (.var 4) (.var 1)) (.cons (.sel 5 (.var 4) (.var 1)) .nil)))))))))
    (.lt (.app 10800 (.cons (.var 0) (.cons (.n 0) (.cons (.sel 0 (.var 4) (.var 1)) (.cons (.sel 1 (.var 4) (.var 1)) (.cons (.sel 2 (.var 4) (.var 1)) (.cons (.sel 3 (.var 4) (.var 1)) (.cons (.sel 4 (.var 4) (.var 1)) (.cons (.sel 5 (.var 4) (.var 1)) .nil)))))))) 0) 3
    (.ite (.bin .eq (.var 7) (.n 0))
     (.ret (.cons (.n 0) (.cons (.var 8) (.cons (.var 1) .nil))))
     (.ret (.cons (.n (-1)) (.cons (.var 8) (.cons (.bin (.add .i64) (.var 1) (.n 1)) .nil)))))))))
   (.ret (.cons (.n 1) (.cons (.var 0) (.cons (.var 1) .nil)))))
theorem le8_0 : (loopVT Try.prog (sgOf sg8) (ltOf lt8) L8_0 lb8_0).slim L8_0.nv [] = rt8_0 := by kernel_rfl
theorem lf8_0 : (firstRegion lb8_0).bind (ltOf lt8) = some L8_0 := by kernel_rfl
theorem lk8_0 : (Code.loops lb8_0).length = 1 := by kernel_rfl
theorem li8_0_0 : (Code.loops lb8_0).getD 0 .skip = lb8_1 := by kernel_rfl
def rt8_1 : VT :=
  (.ite (.bin .lt (.var 1) (.un .len (.var 7)))
   (.need (.t true) (.c (.bin .le (.n 0) (.var 1)))
   (.ite (.bin .lt (.n 40) (.un .slen (.sel 0 (.var 7) (.var 1))))
    (.ret (.cons (.n 0) (.cons (.t false) (.cons (.var 1) .nil))))
    (.ret (.cons (.n (-1)) (.cons (.var 0) (.cons (.bin (.add .i64) (.var 1) (.n 1)) .nil))))))
   (.ret (.cons (.n 1) (.cons (.var 0) (.cons (.var 1) .nil)))))
theorem le8_1 : (loopVT Try.prog (sgOf sg8) (ltOf lt8) L8_1 lb8_1).slim L8_1.nv [] = rt8_1 := by kernel_rfl
theorem lf8_1 : (firstRegion lb8_1).bind (ltOf lt8) = some L8_1 := by kernel_rfl
theorem lk8_1 : (Code.loops lb8_1).length = 0 := by kernel_rfl
def rt8_2 : VT :=
  (.ite (.bin .lt (.var 1) (.un .len (.var 5)))
   (.need (.t true) (.c (.bin .le (.n 0) (.var 1)))
   (.ite (.ite (.bin .lt (.n 80) (.un .slen (.sel 4 (.var 5) (.var 1)))) (.t true) (.bin .lt (.n 4) (.sel 6 (.var 5) (.var 1))))
    (.ret (.cons (.n 0) (.cons (.t false) (.cons (.var 1) .nil))))
    (.ret (.cons (.n (-1)) (.cons (.var 0) (.cons (.bin (.add .i64) (.var 1) (.n 1)) .nil))))))
   (.ret (.cons (.n 1) (.cons (.var 0) (.cons (.var 1) .nil)))))
theorem le8_2 : (loopVT Try.prog (sgOf sg8) (ltOf lt8) L8_2 lb8_2).slim L8_2.nv [] = rt8_2 := by kernel_rfl
theorem lf8_2 : (firstRegion lb8_2).bind (ltOf lt8) = some L8_2 := by kernel_rfl
theorem lk8_2 : (Code.loops lb8_2).length = 0 := by kernel_rfl
def rt8_3 : VT :=
  (.ite (.bin .lt (.var 1) (.un .len (.var 6)))
   (.need (.t true) (.c (.bin .le (.n 0) (.var 1)))
   (.ite (.bin .lt (.n 40) (.un .slen (.sel 0 (.var 6) (.var 1))))
    (.ret (.cons (.n 0) (.cons (.t false) (.cons (.var 1) .nil))))
    (.ret (.cons (.n (-1)) (.cons (.var 0) (.cons (.bin (.add .i64) (.var 1) (.n 1)) .nil))))))
   (.ret (.cons (.n 1) (.cons (.var 0) (.cons (.var 1) .nil)))))
theorem le8_3 : (loopVT Try.prog (sgOf sg8) (ltOf lt8) L8_3 lb8_3).slim L8_3.nv [] = rt8_3 := by kernel_rfl
theorem lf8_3 : (firstRegion lb8_3).bind (ltOf lt8) = some L8_3 := by kernel_rfl
theorem lk8_3 : (Code.loops lb8_3).length = 0 := by kernel_rfl
def vt8 : VT :=
  (.ite (.ite (.ite (.ite (.bin .lt (.var 5) (.un .len (.var 2))) (.t true) (.bin .lt (.var 6) (.un .len (.var 3)))) (.t true) (.bin .lt (.n 6) (.un .len (.var 4)))) (.t true) (.bin .lt (.n 40) (.un .slen (.var 0))))
   (.ret (.cons (.t false) .nil))
   (.need (.t true) (.pre 10801 (.cons (.t false) (.cons (.n 0) (.cons (.var 0) (.cons (.var 1) (.cons (.var 2) (.cons (.var 3) (.cons (.var 4) .nil))))))))
   (.lt (.app 10801 (.cons (.t false) (.cons (.n 0) (.cons (.var 0) (.cons (.var 1) (.cons (.var 2) (.cons (.var 3) (.cons (.var 4) .nil))))))) 0) 3
   (.ite (.bin .eq (.var 7) (.n 0))
    (.ret (.cons (.var 8) .nil))
    (.need (.t true) (.pre 10802 (.cons (.var 8) (.cons (.n 0) (.cons (.var 0) (.cons (.var 1) (.cons (.var 2) (.cons (.var 3) (.cons (.var 4) .nil))))))))
    (.lt (.app 10802 (.cons (.var 8) (.cons (.n 0) (.cons (.var 0) (.cons (.var 1) (.cons (.var 2) (.cons (.var 3) (.cons (.var 4) .nil))))))) 0) 3
    (.ite (.bin .eq (.var 10) (.n 0))
     (.ret (.cons (.var 11) .nil))
     (.need (.t true) (.pre 10803 (.cons (.var 11) (.cons (.n 0) (.cons (.var 0) (.cons (.var 1) (.cons (.var 2) (.cons (.var 3) (.cons (.var 4) .nil))))))))
     (.lt (.app 10803 (.cons (.var 11) (.cons (.n 0) (.cons (.var 0) (.cons (.var 1) (.cons (.var 2) (.cons (.var 3) (.cons (.var 4) .nil))))))) 0) 3
     (.ite (.bin .eq (.var 13) (.n 0))
      (.ret (.cons (.var 14) .nil))
      (.ret (.cons (.t true) .nil))))))))))))
theorem e8 : (fnVT Try.prog (sgOf sg8) (ltOf lt8) S8 Try.f8 c8).slim (S8.ps.map fun p => p.2.length).sum [] = vt8 := by kernel_rfl
def S102 : Sig := ⟨[(false, [(.int .u8)])], [(false, [.bool])], [], none⟩
noncomputable def c102 : Code := Try.f102.body.getD .skip
theorem b102 : Try.f102.body = some c102 := body_some (by kernel_rfl)
theorem n102 : (Try.f102.name == "runtime.NumGoroutine") = false := by kernel_rfl
def sg102 : List (FuncId × Sig) := []
def lt102 : List (Nat × LoopSig) := []
theorem k102 : (Code.loops c102).length = 0 := by kernel_rfl
def vt102 : VT :=
  (.ret (.cons (.ite (.ite (.ite (.bin .le (.n 97) (.var 0)) (.bin .le (.var 0) (.n 122)) (.t false)) (.t true) (.ite (.bin .le (.n 65) (.var 0)) (.bin .le (.var 0) (.n 90)) (.t false))) (.t true) (.bin .eq (.var 0) (.n 95))) .nil))
theorem e102 : (fnVT Try.prog (sgOf sg102) (ltOf lt102) S102 Try.f102 c102).slim (S102.ps.map fun p => p.2.length).sum [] = vt102 := by kernel_rfl
def T102 : FuncId → List D → List D := tabOf []
def fn102 (ρ : List D) : List D := vt102.val T102 ρ
theorem m102 : Meets Try.prog 102 S102 (fun _ => True) fn102 := meets_easy (sgl := sg102) (Φ := T102) mixed ((fun _ h => nomatch h)) Try.func102 b102 n102 k102 e102 (by kernel_rfl)
def S103 : Sig := ⟨[(false, [(.int .u8)])], [(false, [.bool])], [], none⟩
noncomputable def c103 : Code := Try.f103.body.getD .skip
theorem b103 : Try.f103.body = some c103 := body_some (by kernel_rfl)
theorem n103 : (Try.f103.name == "runtime.NumGoroutine") = false := by kernel_rfl
def sg103 : List (FuncId × Sig) := []
def lt103 : List (Nat × LoopSig) := []
theorem k103 : (Code.loops c103).length = 0 := by kernel_rfl
def vt103 : VT :=
  (.ret (.cons (.ite (.bin .le (.n 48) (.var 0)) (.bin .le (.var 0) (.n 57)) (.t false)) .nil))
theorem e103 : (fnVT Try.prog (sgOf sg103) (ltOf lt103) S103 Try.f103 c103).slim (S103.ps.map fun p => p.2.length).sum [] = vt103 := by kernel_rfl
def T103 : FuncId → List D → List D := tabOf []
def fn103 (ρ : List D) : List D := vt103.val T103 ρ
theorem m103 : Meets Try.prog 103 S103 (fun _ => True) fn103 := meets_easy (sgl := sg103) (Φ := T103) mixed ((fun _ h => nomatch h)) Try.func103 b103 n103 k103 e103 (by kernel_rfl)
def S79 : Sig := ⟨[(false, [.str])], [(false, [i6])], [], none⟩
noncomputable def c79 : Code := Try.f79.body.getD .skip
theorem b79 : Try.f79.body = some c79 := body_some (by kernel_rfl)
theorem n79 : (Try.f79.name == "runtime.NumGoroutine") = false := by kernel_rfl
def sg79 : List (FuncId × Sig) := [(102, S102), (103, S103)]
def L79_0 : LoopSig := ⟨17900, [],
   ⟨[(.c (.x .str (.var 0))), .any, .any, (.c (.x i6 (.var 1))), .any, .any, .any, .any, .any, .any, .any, .any, .any, .any, .any, .any, .any, .any, .any, .any, .any, .any, .any, .any, .any, .any, .any],
    []⟩,
   2, [1], [4, 5, 6, 7, 8, 9, 10, 11, 12, 13, 14, 15, 16, 17, 18, 19, 20, 21, 22, 23, 24, 25, 3], [(.exit 0)], []⟩
def lt79 : List (Nat × LoopSig) := [(2, L79_0)]
theorem k79 : (Code.loops c79).length = 1 := by kernel_rfl
noncomputable def lb79_0 : Code := (Code.loops c79).getD 0 .skip
def rt79_0 : VT :=
  (.need (.bin .lt (.var 1) (.un .slen (.var 0))) (.c (.bin .le (.n 0) (.var 1)))
  (.need (.bin .lt (.var 1) (.un .slen (.var 0))) (.c (.bin .lt (.var 1) (.un .slen (.var 0))))
  (.need (.bin .lt (.var 1) (.un .slen (.var 0))) (.pre 102 (.cons (.bin .sidx (.var 0) (.var 1)) .nil))
  (.lt (.app 102 (.cons (.bin .sidx (.var 0) (.var 1)) .nil) 0) 1
  (.need (.ite (.ite (.bin .lt (.var 1) (.un .slen (.var 0))) (.un .not (.var 2)) (.t false)) (.bin .lt (.n 0) (.var 1)) (.t false)) (.c (.bin .le (.n 0) (.var 1)))
  (.need (.ite (.ite (.bin .lt (.var 1) (.un .slen (.var 0))) (.un .not (.var 2)) (.t false)) (.bin .lt (.n 0) (.var 1)) (.t false)) (.c (.bin .lt (.var 1) (.un .slen (.var 0))))
  (.need (.ite (.ite (.bin .lt (.var 1) (.un .slen (.var 0))) (.un .not (.var 2)) (.t false)) (.bin .lt (.n 0) (.var 1)) (.t false)) (.pre 103 (.cons (.bin .sidx (.var 0) (.var 1)) .nil))
  (.lt (.app 103 (.cons (.bin .sidx (.var 0) (.var 1)) .nil) 0) 1
  (.ite (.ite (.bin .lt (.var 1) (.un .slen (.var 0))) (.ite (.var 2) (.t true) (.ite (.bin .lt (.n 0) (.var 1)) (.var 3) (.t false))) (.t false))
   (.ret (.cons (.n (-1)) (.cons (.bin (.add .i64) (.var 1) (.n 1)) .nil)))
   (.ret (.cons (.n 0) (.cons (.var 1) .nil))))))))))))
theorem le79_0 : (loopVT Try.prog (sgOf sg79) (ltOf lt79) L79_0 lb79_0).slim L79_0.nv [] = rt79_0 := by kernel_rfl
theorem lf79_0 : (firstRegion lb79_0).bind (ltOf lt79) = some L79_0 := by kernel_rfl
theorem lk79_0 : (Code.loops lb79_0).length = 0 := by kernel_rfl
def vt79 : VT :=
  (.need (.t true) (.pre 17900 (.cons (.var 0) (.cons (.n 0) .nil)))
  (.lt (.app 17900 (.cons (.var 0) (.cons (.n 0) .nil)) 0) 2
  (.ret (.cons (.var 2) .nil))))
theorem e79 : (fnVT Try.prog (sgOf sg79) (ltOf lt79) S79 Try.f79 c79).slim (S79.ps.map fun p => p.2.length).sum [] = vt79 := by kernel_rfl
def S80 : Sig := ⟨[(false, [.str])], [(false, [.bool])], [], none⟩
noncomputable def c80 : Code := Try.f80.body.getD .skip
theorem b80 : Try.f80.body = some c80 := body_some (by kernel_rfl)
theorem n80 : (Try.f80.name == "runtime.NumGoroutine") = false := by kernel_rfl
def sg80 : List (FuncId × Sig) := []
def lt80 : List (Nat × LoopSig) := []
theorem k80 : (Code.loops c80).length = 0 := by kernel_rfl
def vt80 : VT :=
  (.ite (.bin .seq (.var 0) (.str ⟨#[100, 105, 103, 114, 97, 112, 104]⟩))
   (.ret (.cons (.t true) .nil))
   (.ite (.bin .seq (.var 0) (.str ⟨#[103, 114, 97, 112, 104]⟩))
    (.ret (.cons (.t true) .nil))
    (.ite (.bin .seq (.var 0) (.str ⟨#[110, 111, 100, 101]⟩))
     (.ret (.cons (.t true) .nil))
     (.ite (.bin .seq (.var 0) (.str ⟨#[101, 100, 103, 101]⟩))
      (.ret (.cons (.t true) .nil))
      (.ite (.bin .seq (.var 0) (.str ⟨#[115, 101, 116]⟩))
       (.ret (.cons (.t true) .nil))
       (.ite (.bin .seq (.var 0) (.str ⟨#[99, 108, 117, 115, 116, 101, 114]⟩))
        (.ret (.cons (.t true) .nil))
        (.ret (.cons (.t false) .nil))))))))
theorem e80 : (fnVT Try.prog (sgOf sg80) (ltOf lt80) S80 Try.f80 c80).slim (S80.ps.map fun p => p.2.length).sum [] = vt80 := by kernel_rfl
def T80 : FuncId → List D → List D := tabOf []
def fn80 (ρ : List D) : List D := vt80.val T80 ρ
theorem m80 : Meets Try.prog 80 S80 (fun _ => True) fn80 := meets_easy (sgl := sg80) (Φ := T80) mixed ((fun _ h => nomatch h)) Try.func80 b80 n80 k80 e80 (by kernel_rfl)
def S52 : Sig := ⟨[(false, [.str])], [(false, [.bool])], [], none⟩
noncomputable def c52 : Code := Try.f52.body.getD .skip
theorem b52 : Try.f52.body = some c52 := body_some (by kernel_rfl)
theorem n52 : (Try.f52.name == "runtime.NumGoroutine") = false := by kernel_rfl
def sg52 : List (FuncId × Sig) := [(79, S79), (80, S80)]
def lt52 : List (Nat × LoopSig) := []
theorem k52 : (Code.loops c52).length = 0 := by kernel_rfl
def vt52 : VT :=
  (.need (.ite (.un .not (.bin .seq (.var 0) (.str ⟨#[]⟩))) (.bin .le (.un .slen (.var 0)) (.n 16)) (.t false)) (.pre 79 (.cons (.var 0) .nil))
  (.lt (.app 79 (.cons (.var 0) .nil) 0) 1
  (.need (.ite (.ite (.un .not (.bin .seq (.var 0) (.str ⟨#[]⟩))) (.bin .le (.un .slen (.var 0)) (.n 16)) (.t false)) (.bin .eq (.var 1) (.un .slen (.var 0))) (.t false)) (.pre 80 (.cons (.var 0) .nil))
  (.lt (.app 80 (.cons (.var 0) .nil) 0) 1
  (.ret (.cons (.ite (.ite (.ite (.un .not (.bin .seq (.var 0) (.str ⟨#[]⟩))) (.bin .le (.un .slen (.var 0)) (.n 16)) (.t false)) (.bin .eq (.var 1) (.un .slen (.var 0))) (.t false)) (.un .not (.var 2)) (.t false)) .nil))))))
theorem e52 : (fnVT Try.prog (sgOf sg52) (ltOf lt52) S52 Try.f52 c52).slim (S52.ps.map fun p => p.2.length).sum [] = vt52 := by kernel_rfl
def S105 : Sig := ⟨[(true, [.str, .str, i6, i6, i6, (.sl 53 [.str, i6])]), (false, [(.pt [.str])])], [(false, [.bool])], [], none⟩
noncomputable def c105 : Code := Try.f105.body.getD .skip
theorem b105 : Try.f105.body = some c105 := body_some (by kernel_rfl)
theorem n105 : (Try.f105.name == "runtime.NumGoroutine") = false := by kernel_rfl
def sg105 : List (FuncId × Sig) := []
def lt105 : List (Nat × LoopSig) := []
theorem k105 : (Code.loops c105).length = 0 := by kernel_rfl
def vt105 : VT :=
  (.ret (.cons (.bin .seq (.var 0) (.psel 0 (.var 6))) .nil))
theorem e105 : (fnVT Try.prog (sgOf sg105) (ltOf lt105) S105 Try.f105 c105).slim (S105.ps.map fun p => p.2.length).sum [] = vt105 := by kernel_rfl
def T105 : FuncId → List D → List D := tabOf []
def fn105 (ρ : List D) : List D := vt105.val T105 ρ
theorem m105 : Meets Try.prog 105 S105 (fun _ => True) fn105 := meets_easy (sgl := sg105) (Φ := T105) mixed ((fun _ h => nomatch h)) Try.func105 b105 n105 k105 e105 (by kernel_rfl)
def S104 : Sig := ⟨[(false, [(.sl 38 [.str, .str, i6, i6, i6, (.sl 53 [.str, i6])])]), (false, [.clo])], [(false, [i6])], [], none⟩
noncomputable def c104 : Code := Try.f104.body.getD .skip
theorem b104 : Try.f104.body = some c104 := body_some (by kernel_rfl)
theorem n104 : (Try.f104.name == "runtime.NumGoroutine") = false := by kernel_rfl
def sg104 : List (FuncId × Sig) := [(20039, S20039)]
def L104_0 : LoopSig := ⟨20400, [],
   ⟨[(.c (.x (.sl 38 [.str, .str, i6, i6, i6, (.sl 53 [.str, i6])]) (.var 0))), (.c (.x .clo (.var 1))), .any, .any, (.c (.x i6 (.var 2))), .any, .any, (.c (.x i6 (.var 3))), (.c (.x i6 (.var 4))), .any, .any, .any, .any, .any, .any, .any, .any, .any, .any],
    []⟩,
   5, [2, 4], [9, 10, 5, 11, 12, 13, 14, 15, 16, 17, 4, 18, 8], [.ret, (.exit 0)], []⟩
def lt104 : List (Nat × LoopSig) := [(2, L104_0)]
theorem k104 : (Code.loops c104).length = 1 := by kernel_rfl
noncomputable def lb104_0 : Code := (Code.loops c104).getD 0 .skip
def rt104_0 : VT :=
  (.ite (.bin .lt (.var 4) (.var 3))
   (.need (.t true) (.c (.bin .le (.n 0) (.var 4)))
   (.need (.t true) (.c (.bin .lt (.var 4) (.un .len (.var 0))))
   (.need (.t true) (.pre 20039 (.cons (.var 1) (.cons (.sel 0 (.var 0) (.var 4)) (.cons (.sel 1 (.var 0) (.var 4)) (.cons (.sel 2 (.var 0) (.var 4)) (.cons (.sel 3 (.var 0) (.var 4)) (.cons (.sel 4 (.var 0) (.var 4)) (.cons (.sel 5 (.var 0) (.var 4)) .nil))))))))
   (.lt (.app 20039 (.cons (.var 1) (.cons (.sel 0 (.var 0) (.var 4)) (.cons (.sel 1 (.var 0) (.var 4)) (.cons (.sel 2 (.var 0) (.var 4)) (.cons (.sel 3 (.var 0) (.var 4)) (.cons (.sel 4 (.var 0) (.var 4)) (.cons (.sel 5 (.var 0) (.var 4)) .nil))))))) 0) 1
   (.ite (.var 5)
    (.ret (.cons (.n 0) (.cons (.var 4) (.cons (.var 4) .nil))))
    (.ret (.cons (.n (-1)) (.cons (.var 2) (.cons (.bin (.add .i64) (.var 4) (.n 1)) .nil)))))))))
   (.ret (.cons (.n 1) (.cons (.var 2) (.cons (.var 4) .nil)))))
theorem le104_0 : (loopVT Try.prog (sgOf sg104) (ltOf lt104) L104_0 lb104_0).slim L104_0.nv [] = rt104_0 := by kernel_rfl
theorem lf104_0 : (firstRegion lb104_0).bind (ltOf lt104) = some L104_0 := by kernel_rfl
theorem lk104_0 : (Code.loops lb104_0).length = 0 := by kernel_rfl
def vt104 : VT :=
  (.need (.t true) (.pre 20400 (.cons (.var 0) (.cons (.var 1) (.cons (.n 0) (.cons (.un .len (.var 0)) (.cons (.n 0) .nil))))))
  (.lt (.app 20400 (.cons (.var 0) (.cons (.var 1) (.cons (.n 0) (.cons (.un .len (.var 0)) (.cons (.n 0) .nil))))) 0) 3
  (.ite (.bin .eq (.var 2) (.n 0))
   (.ret (.cons (.var 3) .nil))
   (.ret (.cons (.n (-1)) .nil)))))
theorem e104 : (fnVT Try.prog (sgOf sg104) (ltOf lt104) S104 Try.f104 c104).slim (S104.ps.map fun p => p.2.length).sum [] = vt104 := by kernel_rfl
def S81 : Sig := ⟨[(true, [.str, .bool, (.sl 38 [.str, .str, i6, i6, i6, (.sl 53 [.str, i6])]), (.sl 55 [i6, i6, i6, i6, .str, i6, i6]), (.sl 50 [.str, i6])]), (false, [.str])], [(false, [i6])], [], none⟩
noncomputable def c81 : Code := Try.f81.body.getD .skip
theorem b81 : Try.f81.body = some c81 := body_some (by kernel_rfl)
theorem n81 : (Try.f81.name == "runtime.NumGoroutine") = false := by kernel_rfl
def sg81 : List (FuncId × Sig) := [(104, S104)]
def lt81 : List (Nat × LoopSig) := []
theorem k81 : (Code.loops c81).length = 0 := by kernel_rfl
def vt81 : VT :=
  (.need (.t true) (.pre 104 (.cons (.var 2) (.cons (.clo 105 [(.pt [.str])] (.cons (.pk (.cons (.var 5) .nil)) .nil)) .nil)))
  (.lt (.app 104 (.cons (.var 2) (.cons (.clo 105 [(.pt [.str])] (.cons (.pk (.cons (.var 5) .nil)) .nil)) .nil)) 0) 1
  (.ret (.cons (.var 6) .nil))))
theorem e81 : (fnVT Try.prog (sgOf sg81) (ltOf lt81) S81 Try.f81 c81).slim (S81.ps.map fun p => p.2.length).sum [] = vt81 := by kernel_rfl
def S82 : Sig := ⟨[(false, [.str])], [(false, [i6])], [], none⟩
noncomputable def c82 : Code := Try.f82.body.getD .skip
theorem b82 : Try.f82.body = some c82 := body_some (by kernel_rfl)
theorem n82 : (Try.f82.name == "runtime.NumGoroutine") = false := by kernel_rfl
def sg82 : List (FuncId × Sig) := []
def L82_0 : LoopSig := ⟨18200, [],
   ⟨[.any, .any, (.c (.x i6 (.var 0))), .any, .any, .any, .any, .any, .any, (.c (.x (.sl 5 [(.int .u8)]) (.var 1))), (.c (.x i6 (.var 2))), (.c (.x i6 (.var 3))), .any, .any, .any, .any, .any, .any, .any, .any, .any, .any],
    []⟩,
   4, [0, 3], [12, 13, 14, 4, 15, 16, 17, 18, 19, 20, 2, 21, 11], [.ret, (.exit 0)], []⟩
def lt82 : List (Nat × LoopSig) := [(4, L82_0)]
theorem k82 : (Code.loops c82).length = 1 := by kernel_rfl
noncomputable def lb82_0 : Code := (Code.loops c82).getD 0 .skip
def rt82_0 : VT :=
  (.ite (.bin .lt (.var 3) (.var 2))
   (.need (.t true) (.c (.bin .le (.n 0) (.var 3)))
   (.need (.t true) (.c (.bin .lt (.var 3) (.un .len (.var 1))))
   (.ite (.ite (.bin .lt (.sel 0 (.var 1) (.var 3)) (.n 32)) (.t true) (.bin .lt (.n 126) (.sel 0 (.var 1) (.var 3))))
    (.ret (.cons (.n 0) (.cons (.n 7) (.cons (.var 3) .nil))))
    (.ret (.cons (.n (-1)) (.cons (.var 0) (.cons (.bin (.add .i64) (.var 3) (.n 1)) .nil)))))))
   (.ret (.cons (.n 1) (.cons (.var 0) (.cons (.var 3) .nil)))))
theorem le82_0 : (loopVT Try.prog (sgOf sg82) (ltOf lt82) L82_0 lb82_0).slim L82_0.nv [] = rt82_0 := by kernel_rfl
theorem lf82_0 : (firstRegion lb82_0).bind (ltOf lt82) = some L82_0 := by kernel_rfl
theorem lk82_0 : (Code.loops lb82_0).length = 0 := by kernel_rfl
def vt82 : VT :=
  (.ite (.bin .lt (.n 32) (.un .slen (.var 0)))
   (.ret (.cons (.n 2) .nil))
   (.need (.t true) (.pre 18200 (.cons (.n 0) (.cons (.un .bytes (.var 0)) (.cons (.un .len (.un .bytes (.var 0))) (.cons (.n 0) .nil)))))
   (.lt (.app 18200 (.cons (.n 0) (.cons (.un .bytes (.var 0)) (.cons (.un .len (.un .bytes (.var 0))) (.cons (.n 0) .nil)))) 0) 3
   (.ite (.bin .eq (.var 1) (.n 0))
    (.ret (.cons (.var 2) .nil))
    (.ret (.cons (.n 0) .nil))))))
theorem e82 : (fnVT Try.prog (sgOf sg82) (ltOf lt82) S82 Try.f82 c82).slim (S82.ps.map fun p => p.2.length).sum [] = vt82 := by kernel_rfl
def S83 : Sig := ⟨[(false, [i6])], [(false, [.bool])], [], none⟩
noncomputable def c83 : Code := Try.f83.body.getD .skip
theorem b83 : Try.f83.body = some c83 := body_some (by kernel_rfl)
theorem n83 : (Try.f83.name == "runtime.NumGoroutine") = false := by kernel_rfl
def sg83 : List (FuncId × Sig) := []
def lt83 : List (Nat × LoopSig) := []
theorem k83 : (Code.loops c83).length = 0 := by kernel_rfl
def vt83 : VT :=
  (.ret (.cons (.ite (.bin .le (.n 1) (.var 0)) (.bin .le (.var 0) (.n 1048576)) (.t false)) .nil))
theorem e83 : (fnVT Try.prog (sgOf sg83) (ltOf lt83) S83 Try.f83 c83).slim (S83.ps.map fun p => p.2.length).sum [] = vt83 := by kernel_rfl
def T83 : FuncId → List D → List D := tabOf []
def fn83 (ρ : List D) : List D := vt83.val T83 ρ
theorem m83 : Meets Try.prog 83 S83 (fun _ => True) fn83 := meets_easy (sgl := sg83) (Φ := T83) mixed ((fun _ h => nomatch h)) Try.func83 b83 n83 k83 e83 (by kernel_rfl)
def S107 : Sig := ⟨[(true, [.str, i6]), (false, [(.pt [.str, i6])])], [(false, [.bool])], [], none⟩
noncomputable def c107 : Code := Try.f107.body.getD .skip
theorem b107 : Try.f107.body = some c107 := body_some (by kernel_rfl)
theorem n107 : (Try.f107.name == "runtime.NumGoroutine") = false := by kernel_rfl
def sg107 : List (FuncId × Sig) := []
def lt107 : List (Nat × LoopSig) := []
theorem k107 : (Code.loops c107).length = 0 := by kernel_rfl
def vt107 : VT :=
  (.ret (.cons (.bin .seq (.var 0) (.psel 0 (.var 2))) .nil))
theorem e107 : (fnVT Try.prog (sgOf sg107) (ltOf lt107) S107 Try.f107 c107).slim (S107.ps.map fun p => p.2.length).sum [] = vt107 := by kernel_rfl
def T107 : FuncId → List D → List D := tabOf []
def fn107 (ρ : List D) : List D := vt107.val T107 ρ
theorem m107 : Meets Try.prog 107 S107 (fun _ => True) fn107 := meets_easy (sgl := sg107) (Φ := T107) mixed ((fun _ h => nomatch h)) Try.func107 b107 n107 k107 e107 (by kernel_rfl)
def S111 : Sig := ⟨[(false, [(.sl 53 [.str, i6])]), (false, [.clo])], [(false, [i6])], [], none⟩
noncomputable def c111 : Code := Try.f111.body.getD .skip
theorem b111 : Try.f111.body = some c111 := body_some (by kernel_rfl)
theorem n111 : (Try.f111.name == "runtime.NumGoroutine") = false := by kernel_rfl
def sg111 : List (FuncId × Sig) := [(20054, S20054)]
def L111_0 : LoopSig := ⟨21100, [],
   ⟨[(.c (.x (.sl 53 [.str, i6]) (.var 0))), (.c (.x .clo (.var 1))), .any, .any, (.c (.x i6 (.var 2))), .any, .any, (.c (.x i6 (.var 3))), (.c (.x i6 (.var 4))), .any, .any, .any, .any, .any, .any, .any, .any, .any, .any],
    []⟩,
   5, [2, 4], [9, 10, 5, 11, 12, 13, 14, 15, 16, 17, 4, 18, 8], [.ret, (.exit 0)], []⟩
def lt111 : List (Nat × LoopSig) := [(2, L111_0)]
theorem k111 : (Code.loops c111).length = 1 := by kernel_rfl
noncomputable def lb111_0 : Code := (Code.loops c111).getD 0 .skip
def rt111_0 : VT :=
  (.ite (.bin .lt (.var 4) (.var 3))
   (.need (.t true) (.c (.bin .le (.n 0) (.var 4)))
   (.need (.t true) (.c (.bin .lt (.var 4) (.un .len (.var 0))))
   (.need (.t true) (.pre 20054 (.cons (.var 1) (.cons (.sel 0 (.var 0) (.var 4)) (.cons (.sel 1 (.var 0) (.var 4)) .nil))))
   (.lt (.app 20054 (.cons (.var 1) (.cons (.sel 0 (.var 0) (.var 4)) (.cons (.sel 1 (.var 0) (.var 4)) .nil))) 0) 1
   (.ite (.var 5)
    (.ret (.cons (.n 0) (.cons (.var 4) (.cons (.var 4) .nil))))
    (.ret (.cons (.n (-1)) (.cons (.var 2) (.cons (.bin (.add .i64) (.var 4) (.n 1)) .nil)))))))))
   (.ret (.cons (.n 1) (.cons (.var 2) (.cons (.var 4) .nil)))))
theorem le111_0 : (loopVT Try.prog (sgOf sg111) (ltOf lt111) L111_0 lb111_0).slim L111_0.nv [] = rt111_0 := by kernel_rfl
theorem lf111_0 : (firstRegion lb111_0).bind (ltOf lt111) = some L111_0 := by kernel_rfl
theorem lk111_0 : (Code.loops lb111_0).length = 0 := by kernel_rfl
def vt111 : VT :=
  (.need (.t true) (.pre 21100 (.cons (.var 0) (.cons (.var 1) (.cons (.n 0) (.cons (.un .len (.var 0)) (.cons (.n 0) .nil))))))
  (.lt (.app 21100 (.cons (.var 0) (.cons (.var 1) (.cons (.n 0) (.cons (.un .len (.var 0)) (.cons (.n 0) .nil))))) 0) 3
  (.ite (.bin .eq (.var 2) (.n 0))
   (.ret (.cons (.var 3) .nil))
   (.ret (.cons (.n (-1)) .nil)))))
theorem e111 : (fnVT Try.prog (sgOf sg111) (ltOf lt111) S111 Try.f111 c111).slim (S111.ps.map fun p => p.2.length).sum [] = vt111 := by kernel_rfl
def S106 : Sig := ⟨[(false, [(.sl 53 [.str, i6])]), (false, [.clo])], [(false, [.bool])], [], none⟩
noncomputable def c106 : Code := Try.f106.body.getD .skip
theorem b106 : Try.f106.body = some c106 := body_some (by kernel_rfl)
theorem n106 : (Try.f106.name == "runtime.NumGoroutine") = false := by kernel_rfl
def sg106 : List (FuncId × Sig) := [(111, S111)]
def lt106 : List (Nat × LoopSig) := []
theorem k106 : (Code.loops c106).length = 0 := by kernel_rfl
def vt106 : VT :=
  (.need (.t true) (.pre 111 (.cons (.var 0) (.cons (.var 1) .nil)))
  (.lt (.app 111 (.cons (.var 0) (.cons (.var 1) .nil)) 0) 1
  (.ret (.cons (.bin .le (.n 0) (.var 2)) .nil))))
theorem e106 : (fnVT Try.prog (sgOf sg106) (ltOf lt106) S106 Try.f106 c106).slim (S106.ps.map fun p => p.2.length).sum [] = vt106 := by kernel_rfl
def S84 : Sig := ⟨[(false, [(.sl 53 [.str, i6])])], [(false, [i6])], [], none⟩
noncomputable def c84 : Code := Try.f84.body.getD .skip
theorem b84 : Try.f84.body = some c84 := body_some (by kernel_rfl)
theorem n84 : (Try.f84.name == "runtime.NumGoroutine") = false := by kernel_rfl
def sg84 : List (FuncId × Sig) := [(52, S52), (106, S106)]
def L84_0 : LoopSig := ⟨18400, [],
   ⟨[(.c (.x (.sl 53 [.str, i6]) (.var 0))), .any, (.c (.x i6 (.var 1))), .any, .any, .any, .any, .any, (.c (.x (.sl 53 [.str, i6]) (.var 2))), (.c (.x i6 (.var 3))), (.c (.x i6 (.var 4))), .any, .any, .any, .any, .any, .any, .any, .any, .any, .any, .any, .any, .any, .any, .any, .any, .any, .any, .any, .any, .any, .any, .any, .any, .any],
    []⟩,
   5, [1, 4], [11, 12, 13, 14, 4, 3, 16, 17, 18, 19, 15, 2, 21, 22, 23, 24, 25, 20, 27, 28, 29, 30, 31, 32, 33, 34, 26, 35, 10], [.ret, (.exit 0)], []⟩
def lt84 : List (Nat × LoopSig) := [(4, L84_0)]
theorem k84 : (Code.loops c84).length = 1 := by kernel_rfl
noncomputable def lb84_0 : Code := (Code.loops c84).getD 0 .skip
def rt84_0 : VT :=
  (.ite (.bin .lt (.var 4) (.var 3))
   (.need (.t true) (.c (.bin .le (.n 0) (.var 4)))
   (.need (.t true) (.c (.bin .lt (.var 4) (.un .len (.var 2))))
   (.need (.t true) (.pre 52 (.cons (.sel 0 (.var 2) (.var 4)) .nil))
   (.lt (.app 52 (.cons (.sel 0 (.var 2) (.var 4)) .nil) 0) 1
   (.ite (.un .not (.var 5))
    (.ret (.cons (.n 0) (.cons (.n 5) (.cons (.var 4) .nil))))
    (.need (.t true) (.c (.bin .le (.var 4) (.un .len (.var 0))))
    (.need (.t true) (.pre 106 (.cons (.sub (.var 0) (.n 0) (.var 4)) (.cons (.clo 107 [(.pt [.str, i6])] (.cons (.pk (.cons (.sel 0 (.var 2) (.var 4)) (.cons (.sel 1 (.var 2) (.var 4)) .nil))) .nil)) .nil)))
    (.lt (.app 106 (.cons (.sub (.var 0) (.n 0) (.var 4)) (.cons (.clo 107 [(.pt [.str, i6])] (.cons (.pk (.cons (.sel 0 (.var 2) (.var 4)) (.cons (.sel 1 (.var 2) (.var 4)) .nil))) .nil)) .nil)) 0) 1
    (.ite (.var 6)
     (.ret (.cons (.n 0) (.cons (.n 6) (.cons (.var 4) .nil))))
     (.ite (.ite (.bin .lt (.sel 1 (.var 2) (.var 4)) (.n 0)) (.t true) (.bin .lt (.n 3) (.sel 1 (.var 2) (.var 4))))
      (.ret (.cons (.n 0) (.cons (.n 7) (.cons (.var 4) .nil))))
      (.ret (.cons (.n (-1)) (.cons (.var 1) (.cons (.bin (.add .i64) (.var 4) (.n 1)) .nil))))))))))))))
   (.ret (.cons (.n 1) (.cons (.var 1) (.cons (.var 4) .nil)))))
theorem le84_0 : (loopVT Try.prog (sgOf sg84) (ltOf lt84) L84_0 lb84_0).slim L84_0.nv [] = rt84_0 := by kernel_rfl
theorem lf84_0 : (firstRegion lb84_0).bind (ltOf lt84) = some L84_0 := by kernel_rfl
theorem lk84_0 : (Code.loops lb84_0).length = 0 := by kernel_rfl
def vt84 : VT :=
  (.ite (.bin .lt (.n 8) (.un .len (.var 0)))
   (.ret (.cons (.n 2) .nil))
   (.need (.t true) (.pre 18400 (.cons (.var 0) (.cons (.n 0) (.cons (.var 0) (.cons (.un .len (.var 0)) (.cons (.n 0) .nil))))))
   (.lt (.app 18400 (.cons (.var 0) (.cons (.n 0) (.cons (.var 0) (.cons (.un .len (.var 0)) (.cons (.n 0) .nil))))) 0) 3
   (.ite (.bin .eq (.var 1) (.n 0))
    (.ret (.cons (.var 2) .nil))
    (.ret (.cons (.n 0) .nil))))))
theorem e84 : (fnVT Try.prog (sgOf sg84) (ltOf lt84) S84 Try.f84 c84).slim (S84.ps.map fun p => p.2.length).sum [] = vt84 := by kernel_rfl
def S53 : Sig := ⟨[(true, [.str, .bool, (.sl 38 [.str, .str, i6, i6, i6, (.sl 53 [.str, i6])]), (.sl 55 [i6, i6, i6, i6, .str, i6, i6]), (.sl 50 [.str, i6])]), (false, [i6])], [(false, [i6])], [], none⟩
noncomputable def c53 : Code := Try.f53.body.getD .skip
theorem b53 : Try.f53.body = some c53 := body_some (by kernel_rfl)
theorem n53 : (Try.f53.name == "runtime.NumGoroutine") = false := by kernel_rfl
def sg53 : List (FuncId × Sig) := [(52, S52), (81, S81), (82, S82), (83, S83), (84, S84)]
def lt53 : List (Nat × LoopSig) := []
theorem k53 : (Code.loops c53).length = 0 := by kernel_rfl
def vt53 : VT :=
  (.need (.t true) (.c (.bin .le (.n 0) (.var 5)))
  (.need (.t true) (.c (.bin .lt (.var 5) (.un .len (.var 2))))
  (.need (.t true) (.pre 52 (.cons (.sel 0 (.var 2) (.var 5)) .nil))
  (.lt (.app 52 (.cons (.sel 0 (.var 2) (.var 5)) .nil) 0) 1
  (.ite (.un .not (.var 6))
   (.ret (.cons (.n 5) .nil))
   (.need (.t true) (.pre 81 (.cons (.var 0) (.cons (.var 1) (.cons (.var 2) (.cons (.var 3) (.cons (.var 4) (.cons (.sel 0 (.var 2) (.var 5)) .nil)))))))
   (.lt (.app 81 (.cons (.var 0) (.cons (.var 1) (.cons (.var 2) (.cons (.var 3) (.cons (.var 4) (.cons (.sel 0 (.var 2) (.var 5)) .nil)))))) 0) 1
   (.ite (.bin .lt (.var 7) (.var 5))
    (.ret (.cons (.n 6) .nil))
    (.need (.t true) (.pre 82 (.cons (.sel 1 (.var 2) (.var 5)) .nil))
    (.lt (.app 82 (.cons (.sel 1 (.var 2) (.var 5)) .nil) 0) 1
    (.ite (.un .not (.bin .eq (.var 8) (.n 0)))
     (.ret (.cons (.var 8) .nil))
     (.need (.t true) (.pre 83 (.cons (.sel 2 (.var 2) (.var 5)) .nil))
     (.lt (.app 83 (.cons (.sel 2 (.var 2) (.var 5)) .nil) 0) 1
     (.need (.var 9) (.pre 83 (.cons (.sel 3 (.var 2) (.var 5)) .nil))
     (.lt (.app 83 (.cons (.sel 3 (.var 2) (.var 5)) .nil) 0) 1
     (.ite (.ite (.ite (.ite (.un .not (.var 9)) (.t true) (.un .not (.var 10))) (.t true) (.bin .lt (.sel 4 (.var 2) (.var 5)) (.n (-1)))) (.t true) (.bin .le (.un .len (.var 4)) (.sel 4 (.var 2) (.var 5))))
      (.ret (.cons (.n 3) .nil))
      (.need (.t true) (.pre 84 (.cons (.sel 5 (.var 2) (.var 5)) .nil))
      (.lt (.app 84 (.cons (.sel 5 (.var 2) (.var 5)) .nil) 0) 1
      (.ret (.cons (.var 11) .nil))))))))))))))))))))
theorem e53 : (fnVT Try.prog (sgOf sg53) (ltOf lt53) S53 Try.f53 c53).slim (S53.ps.map fun p => p.2.length).sum [] = vt53 := by kernel_rfl
def S86 : Sig := ⟨[(true, [.str, i6]), (false, [(.pt [.str, i6])])], [(false, [.bool])], [], none⟩
noncomputable def c86 : Code := Try.f86.body.getD .skip
theorem b86 : Try.f86.body = some c86 := body_some (by kernel_rfl)
theorem n86 : (Try.f86.name == "runtime.NumGoroutine") = false := by kernel_rfl
def sg86 : List (FuncId × Sig) := []
def lt86 : List (Nat × LoopSig) := []
theorem k86 : (Code.loops c86).length = 0 := by kernel_rfl
def vt86 : VT :=
  (.ret (.cons (.bin .seq (.var 0) (.psel 0 (.var 2))) .nil))
theorem e86 : (fnVT Try.prog (sgOf sg86) (ltOf lt86) S86 Try.f86 c86).slim (S86.ps.map fun p => p.2.length).sum [] = vt86 := by kernel_rfl
def T86 : FuncId → List D → List D := tabOf []
def fn86 (ρ : List D) : List D := vt86.val T86 ρ
theorem m86 : Meets Try.prog 86 S86 (fun _ => True) fn86 := meets_easy (sgl := sg86) (Φ := T86) mixed ((fun _ h => nomatch h)) Try.func86 b86 n86 k86 e86 (by kernel_rfl)
def S108 : Sig := ⟨[(false, [(.sl 50 [.str, i6])]), (false, [.clo])], [(false, [i6])], [], none⟩
noncomputable def c108 : Code := Try.f108.body.getD .skip
theorem b108 : Try.f108.body = some c108 := body_some (by kernel_rfl)
theorem n108 : (Try.f108.name == "runtime.NumGoroutine") = false := by kernel_rfl
def sg108 : List (FuncId × Sig) := [(20051, S20051)]
def L108_0 : LoopSig := ⟨20800, [],
   ⟨[(.c (.x (.sl 50 [.str, i6]) (.var 0))), (.c (.x .clo (.var 1))), .any, .any, (.c (.x i6 (.var 2))), .any, .any, (.c (.x i6 (.var 3))), (.c (.x i6 (.var 4))), .any, .any, .any, .any, .any, .any, .any, .any, .any, .any],
    []⟩,
   5, [2, 4], [9, 10, 5, 11, 12, 13, 14, 15, 16, 17, 4, 18, 8], [.ret, (.exit 0)], []⟩
def lt108 : List (Nat × LoopSig) := [(2, L108_0)]
theorem k108 : (Code.loops c108).length = 1 := by kernel_rfl
noncomputable def lb108_0 : Code := (Code.loops c108).getD 0 .skip
def rt108_0 : VT :=
  (.ite (.bin .lt (.var 4) (.var 3))
   (.need (.t true) (.c (.bin .le (.n 0) (.var 4)))
   (.need (.t true) (.c (.bin .lt (.var 4) (.un .len (.var 0))))
   (.need (.t true) (.pre 20051 (.cons (.var 1) (.cons (.sel 0 (.var 0) (.var 4)) (.cons (.sel 1 (.var 0) (.var 4)) .nil))))
   (.lt (.app 20051 (.cons (.var 1) (.cons (.sel 0 (.var 0) (.var 4)) (.cons (.sel 1 (.var 0) (.var 4)) .nil))) 0) 1
   (.ite (.var 5)
    (.ret (.cons (.n 0) (.cons (.var 4) (.cons (.var 4) .nil))))
    (.ret (.cons (.n (-1)) (.cons (.var 2) (.cons (.bin (.add .i64) (.var 4) (.n 1)) .nil)))))))))
   (.ret (.cons (.n 1) (.cons (.var 2) (.cons (.var 4) .nil)))))
theorem le108_0 : (loopVT Try.prog (sgOf sg108) (ltOf lt108) L108_0 lb108_0).slim L108_0.nv [] = rt108_0 := by kernel_rfl
theorem lf108_0 : (firstRegion lb108_0).bind (ltOf lt108) = some L108_0 := by kernel_rfl
theorem lk108_0 : (Code.loops lb108_0).length = 0 := by kernel_rfl
def vt108 : VT :=
  (.need (.t true) (.pre 20800 (.cons (.var 0) (.cons (.var 1) (.cons (.n 0) (.cons (.un .len (.var 0)) (.cons (.n 0) .nil))))))
  (.lt (.app 20800 (.cons (.var 0) (.cons (.var 1) (.cons (.n 0) (.cons (.un .len (.var 0)) (.cons (.n 0) .nil))))) 0) 3
  (.ite (.bin .eq (.var 2) (.n 0))
   (.ret (.cons (.var 3) .nil))
   (.ret (.cons (.n (-1)) .nil)))))
theorem e108 : (fnVT Try.prog (sgOf sg108) (ltOf lt108) S108 Try.f108 c108).slim (S108.ps.map fun p => p.2.length).sum [] = vt108 := by kernel_rfl
def S85 : Sig := ⟨[(false, [(.sl 50 [.str, i6])]), (false, [.clo])], [(false, [.bool])], [], none⟩
noncomputable def c85 : Code := Try.f85.body.getD .skip
theorem b85 : Try.f85.body = some c85 := body_some (by kernel_rfl)
theorem n85 : (Try.f85.name == "runtime.NumGoroutine") = false := by kernel_rfl
def sg85 : List (FuncId × Sig) := [(108, S108)]
def lt85 : List (Nat × LoopSig) := []
theorem k85 : (Code.loops c85).length = 0 := by kernel_rfl
def vt85 : VT :=
  (.need (.t true) (.pre 108 (.cons (.var 0) (.cons (.var 1) .nil)))
  (.lt (.app 108 (.cons (.var 0) (.cons (.var 1) .nil)) 0) 1
  (.ret (.cons (.bin .le (.n 0) (.var 2)) .nil))))
theorem e85 : (fnVT Try.prog (sgOf sg85) (ltOf lt85) S85 Try.f85 c85).slim (S85.ps.map fun p => p.2.length).sum [] = vt85 := by kernel_rfl
def S89 : Sig := ⟨[(true, [.str, .bool, (.sl 38 [.str, .str, i6, i6, i6, (.sl 53 [.str, i6])]), (.sl 55 [i6, i6, i6, i6, .str, i6, i6]), (.sl 50 [.str, i6])]), (false, [i6])], [(false, [(.sl 3 [i6])])], [], none⟩
noncomputable def c89 : Code := Try.f89.body.getD .skip
theorem b89 : Try.f89.body = some c89 := body_some (by kernel_rfl)
theorem n89 : (Try.f89.name == "runtime.NumGoroutine") = false := by kernel_rfl
def sg89 : List (FuncId × Sig) := []
def L89_0 : LoopSig := ⟨18900, [(5, none, 3)],
   ⟨[.any, (.c (.x i6 (.var 0))), (.c (.ptr 0 0)), .any, .any, (.c (.row 1 1)), .any, .any, .any, .any, .any, .any, .any, .any, .any, .any, .any, .any, .any],
    [some ⟨(.t true), (.box 26 [(.x .str (.var 1)), (.x .bool (.var 2)), (.x (.sl 38 [.str, .str, i6, i6, i6, (.sl 53 [.str, i6])]) (.var 3)), (.x (.sl 55 [i6, i6, i6, i6, .str, i6, i6]) (.var 4)), (.x (.sl 50 [.str, i6]) (.var 5))] false)⟩, some ⟨(.t true), (.row 3 [i6] (.var 6) 1 false)⟩]⟩,
   7, [0, 6], [6, 7, 8, 9, 10, 11, 5, 12, 13, 14, 15, 16, 17, 1], [(.exit 0)], [6]⟩
def lt89 : List (Nat × LoopSig) := [(2, L89_0)]
theorem k89 : (Code.loops c89).length = 1 := by kernel_rfl
noncomputable def lb89_0 : Code := (Code.loops c89).getD 0 .skip
def rt89_0 : VT :=
  (.ite (.bin .le (.n 0) (.var 0))
   (.need (.t true) (.c (.bin .le (.un .len (.bin .cat (.var 6) (.lcons (.cons (.var 0) .nil) .lnil))) (.n 17592186044416)))
   (.need (.t true) (.c (.bin .lt (.var 0) (.un .len (.var 5))))
   (.ret (.cons (.n (-1)) (.cons (.sel 1 (.var 5) (.var 0)) (.cons (.bin .cat (.var 6) (.lcons (.cons (.var 0) .nil) .lnil)) .nil))))))
   (.ret (.cons (.n 0) (.cons (.var 0) (.cons (.var 6) .nil)))))
theorem le89_0 : (loopVT Try.prog (sgOf sg89) (ltOf lt89) L89_0 lb89_0).slim L89_0.nv [] = rt89_0 := by kernel_rfl
theorem lf89_0 : (firstRegion lb89_0).bind (ltOf lt89) = some L89_0 := by kernel_rfl
theorem lk89_0 : (Code.loops lb89_0).length = 0 := by kernel_rfl
def vt89 : VT :=
  (.need (.t true) (.pre 18900 (.cons (.var 5) (.cons (.var 0) (.cons (.var 1) (.cons (.var 2) (.cons (.var 3) (.cons (.var 4) (.cons .lnil .nil))))))))
  (.lt (.app 18900 (.cons (.var 5) (.cons (.var 0) (.cons (.var 1) (.cons (.var 2) (.cons (.var 3) (.cons (.var 4) (.cons .lnil .nil))))))) 0) 3
  (.ret (.cons (.var 8) .nil))))
theorem e89 : (fnVT Try.prog (sgOf sg89) (ltOf lt89) S89 Try.f89 c89).slim (S89.ps.map fun p => p.2.length).sum [] = vt89 := by kernel_rfl
def S87 : Sig := ⟨[(true, [.str, .bool, (.sl 38 [.str, .str, i6, i6, i6, (.sl 53 [.str, i6])]), (.sl 55 [i6, i6, i6, i6, .str, i6, i6]), (.sl 50 [.str, i6])]), (false, [i6])], [(false, [i6])], [], none⟩
noncomputable def c87 : Code := Try.f87.body.getD .skip
theorem b87 : Try.f87.body = some c87 := body_some (by kernel_rfl)
theorem n87 : (Try.f87.name == "runtime.NumGoroutine") = false := by kernel_rfl
def sg87 : List (FuncId × Sig) := [(89, S89)]
def lt87 : List (Nat × LoopSig) := []
theorem k87 : (Code.loops c87).length = 0 := by kernel_rfl
def vt87 : VT :=
  (.need (.t true) (.pre 89 (.cons (.var 0) (.cons (.var 1) (.cons (.var 2) (.cons (.var 3) (.cons (.var 4) (.cons (.var 5) .nil)))))))
  (.lt (.app 89 (.cons (.var 0) (.cons (.var 1) (.cons (.var 2) (.cons (.var 3) (.cons (.var 4) (.cons (.var 5) .nil)))))) 0) 1
  (.ret (.cons (.un .len (.var 6)) .nil))))
theorem e87 : (fnVT Try.prog (sgOf sg87) (ltOf lt87) S87 Try.f87 c87).slim (S87.ps.map fun p => p.2.length).sum [] = vt87 := by kernel_rfl
def S54 : Sig := ⟨[(true, [.str, .bool, (.sl 38 [.str, .str, i6, i6, i6, (.sl 53 [.str, i6])]), (.sl 55 [i6, i6, i6, i6, .str, i6, i6]), (.sl 50 [.str, i6])]), (false, [i6])], [(false, [i6])], [], none⟩
noncomputable def c54 : Code := Try.f54.body.getD .skip
theorem b54 : Try.f54.body = some c54 := body_some (by kernel_rfl)
theorem n54 : (Try.f54.name == "runtime.NumGoroutine") = false := by kernel_rfl
def sg54 : List (FuncId × Sig) := [(52, S52), (81, S81), (85, S85), (87, S87)]
def lt54 : List (Nat × LoopSig) := []
theorem k54 : (Code.loops c54).length = 0 := by kernel_rfl
def vt54 : VT :=
  (.need (.t true) (.c (.bin .le (.n 0) (.var 5)))
  (.need (.t true) (.c (.bin .lt (.var 5) (.un .len (.var 4))))
  (.need (.t true) (.pre 52 (.cons (.sel 0 (.var 4) (.var 5)) .nil))
  (.lt (.app 52 (.cons (.sel 0 (.var 4) (.var 5)) .nil) 0) 1
  (.ite (.un .not (.var 6))
   (.ret (.cons (.n 5) .nil))
   (.need (.t true) (.pre 81 (.cons (.var 0) (.cons (.var 1) (.cons (.var 2) (.cons (.var 3) (.cons (.var 4) (.cons (.sel 0 (.var 4) (.var 5)) .nil)))))))
   (.lt (.app 81 (.cons (.var 0) (.cons (.var 1) (.cons (.var 2) (.cons (.var 3) (.cons (.var 4) (.cons (.sel 0 (.var 4) (.var 5)) .nil)))))) 0) 1
   (.need (.un .not (.bin .le (.n 0) (.var 7))) (.c (.bin .le (.var 5) (.un .len (.var 4))))
   (.need (.un .not (.bin .le (.n 0) (.var 7))) (.pre 85 (.cons (.sub (.var 4) (.n 0) (.var 5)) (.cons (.clo 86 [(.pt [.str, i6])] (.cons (.pk (.cons (.sel 0 (.var 4) (.var 5)) (.cons (.sel 1 (.var 4) (.var 5)) .nil))) .nil)) .nil)))
   (.lt (.app 85 (.cons (.sub (.var 4) (.n 0) (.var 5)) (.cons (.clo 86 [(.pt [.str, i6])] (.cons (.pk (.cons (.sel 0 (.var 4) (.var 5)) (.cons (.sel 1 (.var 4) (.var 5)) .nil))) .nil)) .nil)) 0) 1
   (.ite (.ite (.bin .le (.n 0) (.var 7)) (.t true) (.var 8))
    (.ret (.cons (.n 6) .nil))
    (.ite (.ite (.bin .lt (.sel 1 (.var 4) (.var 5)) (.n (-1))) (.t true) (.bin .le (.var 5) (.sel 1 (.var 4) (.var 5))))
     (.ret (.cons (.n 3) .nil))
     (.need (.t true) (.pre 87 (.cons (.var 0) (.cons (.var 1) (.cons (.var 2) (.cons (.var 3) (.cons (.var 4) (.cons (.var 5) .nil)))))))
     (.lt (.app 87 (.cons (.var 0) (.cons (.var 1) (.cons (.var 2) (.cons (.var 3) (.cons (.var 4) (.cons (.var 5) .nil)))))) 0) 1
     (.ite (.bin .lt (.n 6) (.var 9))
      (.ret (.cons (.n 2) .nil))
      (.ret (.cons (.n 0) .nil)))))))))))))))))
theorem e54 : (fnVT Try.prog (sgOf sg54) (ltOf lt54) S54 Try.f54 c54).slim (S54.ps.map fun p => p.2.length).sum [] = vt54 := by kernel_rfl
def S55 : Sig := ⟨[(true, [.str, .bool, (.sl 38 [.str, .str, i6, i6, i6, (.sl 53 [.str, i6])]), (.sl 55 [i6, i6, i6, i6, .str, i6, i6]), (.sl 50 [.str, i6])]), (true, [i6, i6, i6, i6, .str, i6, i6])], [(false, [i6])], [], none⟩
noncomputable def c55 : Code := Try.f55.body.getD .skip
theorem b55 : Try.f55.body = some c55 := body_some (by kernel_rfl)
theorem n55 : (Try.f55.name == "runtime.NumGoroutine") = false := by kernel_rfl
def sg55 : List (FuncId × Sig) := [(82, S82)]
def lt55 : List (Nat × LoopSig) := []
theorem k55 : (Code.loops c55).length = 0 := by kernel_rfl
def vt55 : VT :=
  (.need (.un .not (.ite (.ite (.bin .lt (.bin .min (.var 5) (.var 6)) (.n 0)) (.t true) (.bin .le (.un .len (.var 2)) (.bin .max (.var 5) (.var 6)))) (.t true) (.bin .lt (.bin .min (.var 7) (.var 8)) (.n (-1))))) (.c (.bin .le (.n 0) (.var 5)))
  (.need (.un .not (.ite (.ite (.bin .lt (.bin .min (.var 5) (.var 6)) (.n 0)) (.t true) (.bin .le (.un .len (.var 2)) (.bin .max (.var 5) (.var 6)))) (.t true) (.bin .lt (.bin .min (.var 7) (.var 8)) (.n (-1))))) (.c (.bin .lt (.var 5) (.un .len (.var 2))))
  (.need (.un .not (.ite (.ite (.ite (.bin .lt (.bin .min (.var 5) (.var 6)) (.n 0)) (.t true) (.bin .le (.un .len (.var 2)) (.bin .max (.var 5) (.var 6)))) (.t true) (.bin .lt (.bin .min (.var 7) (.var 8)) (.n (-1)))) (.t true) (.bin .le (.un .len (.sel 5 (.var 2) (.var 5))) (.var 7)))) (.c (.bin .le (.n 0) (.var 6)))
  (.need (.un .not (.ite (.ite (.ite (.bin .lt (.bin .min (.var 5) (.var 6)) (.n 0)) (.t true) (.bin .le (.un .len (.var 2)) (.bin .max (.var 5) (.var 6)))) (.t true) (.bin .lt (.bin .min (.var 7) (.var 8)) (.n (-1)))) (.t true) (.bin .le (.un .len (.sel 5 (.var 2) (.var 5))) (.var 7)))) (.c (.bin .lt (.var 6) (.un .len (.var 2))))
  (.ite (.ite (.ite (.ite (.ite (.bin .lt (.bin .min (.var 5) (.var 6)) (.n 0)) (.t true) (.bin .le (.un .len (.var 2)) (.bin .max (.var 5) (.var 6)))) (.t true) (.bin .lt (.bin .min (.var 7) (.var 8)) (.n (-1)))) (.t true) (.bin .le (.un .len (.sel 5 (.var 2) (.var 5))) (.var 7))) (.t true) (.bin .le (.un .len (.sel 5 (.var 2) (.var 6))) (.var 8)))
   (.ret (.cons (.n 3) .nil))
   (.need (.t true) (.pre 82 (.cons (.var 9) .nil))
   (.lt (.app 82 (.cons (.var 9) .nil) 0) 1
   (.ite (.un .not (.bin .eq (.var 12) (.n 0)))
    (.ret (.cons (.var 12) .nil))
    (.ite (.ite (.ite (.ite (.bin .lt (.var 10) (.n 1)) (.t true) (.bin .lt (.n 1000) (.var 10))) (.t true) (.bin .lt (.var 11) (.n 1))) (.t true) (.bin .lt (.n 64) (.var 11)))
     (.ret (.cons (.n 7) .nil))
     (.ret (.cons (.n 0) .nil)))))))))))
theorem e55 : (fnVT Try.prog (sgOf sg55) (ltOf lt55) S55 Try.f55 c55).slim (S55.ps.map fun p => p.2.length).sum [] = vt55 := by kernel_rfl
def S26 : Sig := ⟨[(true, [.str, .bool, (.sl 38 [.str, .str, i6, i6, i6, (.sl 53 [.str, i6])]), (.sl 55 [i6, i6, i6, i6, .str, i6, i6]), (.sl 50 [.str, i6])])], [(false, [i6])], [], none⟩
noncomputable def c26 : Code := Try.f26.body.getD .skip
theorem b26 : Try.f26.body = some c26 := body_some (by kernel_rfl)
theorem n26 : (Try.f26.name == "runtime.NumGoroutine") = false := by kernel_rfl
def sg26 : List (FuncId × Sig) := [(52, S52), (53, S53), (54, S54), (55, S55)]
def L26_0 : LoopSig := ⟨12600, [],
   ⟨[.any, (.c (.ptr 0 0)), (.c (.x i6 (.var 0))), .any, .any, .any, .any, .any, .any, .any, .any, .any, .any, .any, .any, .any, .any, .any, .any, .any, .any, .any, .any, .any, .any, .any, .any, .any, .any, .any, .any, .any, (.c (.x i6 (.var 1))), (.c (.x i6 (.var 2))), .any, .any, .any, .any, .any, .any, .any, .any, .any, .any, .any, .any, .any, .any, .any, .any, .any, .any, .any, .any, .any, .any, .any, .any, .any, .any, .any, .any, .any, .any, .any, .any, .any, .any, .any, .any],
    [some ⟨(.t true), (.box 26 [(.x .str (.var 3)), (.x .bool (.var 4)), (.x (.sl 38 [.str, .str, i6, i6, i6, (.sl 53 [.str, i6])]) (.var 5)), (.x (.sl 55 [i6, i6, i6, i6, .str, i6, i6]) (.var 6)), (.x (.sl 50 [.str, i6]) (.var 7))] false)⟩]⟩,
   8, [0, 2], [34, 35, 3, 36, 37, 38, 4, 39, 40, 41, 2, 42, 33], [.ret, (.exit 0)], []⟩
def L26_1 : LoopSig := ⟨12601, [],
   ⟨[.any, (.c (.ptr 0 0)), (.c (.x i6 (.var 0))), .any, .any, .any, .any, .any, .any, .any, .any, .any, .any, .any, .any, .any, .any, .any, .any, .any, .any, .any, .any, .any, .any, .any, .any, .any, .any, .any, .any, .any, .any, .any, .any, .any, .any, .any, .any, .any, .any, .any, .any, .any, .any, (.c (.x i6 (.var 1))), (.c (.x i6 (.var 2))), .any, .any, .any, .any, .any, .any, .any, .any, .any, .any, .any, .any, .any, .any, .any, .any, .any, .any, .any, .any, .any, .any, .any],
    [some ⟨(.t true), (.box 26 [(.x .str (.var 3)), (.x .bool (.var 4)), (.x (.sl 38 [.str, .str, i6, i6, i6, (.sl 53 [.str, i6])]) (.var 5)), (.x (.sl 55 [i6, i6, i6, i6, .str, i6, i6]) (.var 6)), (.x (.sl 50 [.str, i6]) (.var 7))] false)⟩]⟩,
   8, [0, 2], [47, 48, 5, 49, 50, 51, 6, 52, 53, 54, 2, 55, 46], [.ret, (.exit 2)], []⟩
def L26_2 : LoopSig := ⟨12602, [],
   ⟨[.any, (.c (.ptr 0 0)), (.c (.x i6 (.var 0))), .any, .any, .any, .any, .any, .any, .any, .any, .any, .any, .any, .any, .any, .any, .any, .any, .any, .any, .any, .any, .any, .any, .any, .any, .any, .any, .any, .any, .any, .any, .any, .any, .any, .any, .any, .any, .any, .any, .any, .any, .any, .any, .any, .any, .any, .any, .any, .any, .any, .any, .any, .any, .any, .any, (.c (.x (.sl 55 [i6, i6, i6, i6, .str, i6, i6]) (.var 1))), (.c (.x i6 (.var 2))), (.c (.x i6 (.var 3))), .any, .any, .any, .any, .any, .any, .any, .any, .any, .any],
    [some ⟨(.t true), (.box 26 [(.x .str (.var 4)), (.x .bool (.var 5)), (.x (.sl 38 [.str, .str, i6, i6, i6, (.sl 53 [.str, i6])]) (.var 6)), (.x (.sl 55 [i6, i6, i6, i6, .str, i6, i6]) (.var 7)), (.x (.sl 50 [.str, i6]) (.var 8))] false)⟩]⟩,
   9, [0, 3], [60, 61, 62, 8, 63, 64, 65, 9, 66, 67, 68, 2, 69, 59], [.ret, (.exit 4)], []⟩
def lt26 : List (Nat × LoopSig) := [(6, L26_0), (13, L26_1), (20, L26_2)]
theorem k26 : (Code.loops c26).length = 3 := by kernel_rfl
noncomputable def lb26_0 : Code := (Code.loops c26).getD 0 .skip
noncomputable def lb26_1 : Code := (Code.loops c26).getD 1 .skip
noncomputable def lb26_2 : Code := (Code.loops c26).getD 2 .skip
def rt26_0 : VT :=
  (.ite (.bin .lt (.var 2) (.var 1))
   (.need (.t true) (.pre 53 (.cons (.var 3) (.cons (.var 4) (.cons (.var 5) (.cons (.var 6) (.cons (.var 7) (.cons (.var 2) .nil)))))))
   (.lt (.app 53 (.cons (.var 3) (.cons (.var 4) (.cons (.var 5) (.cons (.var 6) (.cons (.var 7) (.cons (.var 2) .nil)))))) 0) 1
   (.ite (.un .not (.bin .eq (.var 8) (.n 0)))
    (.ret (.cons (.n 0) (.cons (.var 8) (.cons (.var 2) .nil))))
    (.ret (.cons (.n (-1)) (.cons (.var 0) (.cons (.bin (.add .i64) (.var 2) (.n 1)) .nil)))))))
   (.ret (.cons (.n 1) (.cons (.var 0) (.cons (.var 2) .nil)))))
theorem le26_0 : (loopVT Try.prog (sgOf sg26) (ltOf lt26) L26_0 lb26_0).slim L26_0.nv [] = rt26_0 := by kernel_rfl
theorem lf26_0 : (firstRegion lb26_0).bind (ltOf lt26) = some L26_0 := by kernel_rfl
theorem lk26_0 : (Code.loops lb26_0).length = 0 := by kernel_rfl
def rt26_1 : VT :=
  (.ite (.bin .lt (.var 2) (.var 1))
   (.need (.t true) (.pre 54 (.cons (.var 3) (.cons (.var 4) (.cons (.var 5) (.cons (.var 6) (.cons (.var 7) (.cons (.var 2) .nil)))))))
   (.lt (.app 54 (.cons (.var 3) (.cons (.var 4) (.cons (.var 5) (.cons (.var 6) (.cons (.var 7) (.cons (.var 2) .nil)))))) 0) 1
   (.ite (.un .not (.bin .eq (.var 8) (.n 0)))
    (.ret (.cons (.n 0) (.cons (.var 8) (.cons (.var 2) .nil))))
    (.ret (.cons (.n (-1)) (.cons (.var 0) (.cons (.bin (.add .i64) (.var 2) (.n 1)) .nil)))))))
   (.ret (.cons (.n 1) (.cons (.var 0) (.cons (.var 2) .nil)))))
theorem le26_1 : (loopVT Try.prog (sgOf sg26) (ltOf lt26) L26_1 lb26_1).slim L26_1.nv [] = rt26_1 := by kernel_rfl
theorem lf26_1 : (firstRegion lb26_1).bind (ltOf lt26) = some L26_1 := by kernel_rfl
theorem lk26_1 : (Code.loops lb26_1).length = 0 := by kernel_rfl
def rt26_2 : VT :=
  (.ite (.bin .lt (.var 3) (.var 2))
   (.need (.t true) (.c (.bin .le (.n 0) (.var 3)))
   (.need (.t true) (.c (.bin .lt (.var 3) (.un .len (.var 1))))
   (.need (.t true) (.pre 55 (.cons (.var 4) (.cons (.var 5) (.cons (.var 6) (.cons (.var 7) (.cons (.var 8) (.cons (.sel 0 (.var 1) (.var 3)) (.cons (.sel 1 (.var 1) (.var 3)) (.cons (.sel 2 (.var 1) (.var 3)) (.cons (.sel 3 (.var 1) (.var 3)) (.cons (.sel 4 (.var 1) (.var 3)) (.cons (.sel 5 (.var 1) (.var 3)) (.cons (.sel 6 (.var 1) (.var 3)) .nil)))))))))))))
   (.lt (.app 55 (.cons (.var 4) (.cons (.var 5) (.cons (.var 6) (.cons (.var 7) (.cons (.var 8) (.cons (.sel 0 (.var 1) (.var 3)) (.cons (.sel 1 (.var 1) (.var 3)) (.cons (.sel 2 (.var 1) (.var 3)) (.cons (.sel 3 (.var 1) (.var 3)) (.cons (.sel 4 (.var 1) (.var 3)) (.cons (.sel 5 (.var 1) (.var 3)) (.cons (.sel 6 (.var 1) (.var 3)) .nil)))))))))))) 0) 1
   (.ite (.un .not (.bin .eq (.var 9) (.n 0)))
    (.ret (.cons (.n 0) (.cons (.var 9) (.cons (.var 3) .nil))))
    (.ret (.cons (.n (-1)) (.cons (.var 0) (.cons (.bin (.add .i64) (.var 3) (.n 1)) .nil)))))))))
   (.ret (.cons (.n 1) (.cons (.var 0) (.cons (.var 3) .nil)))))
theorem le26_2 : (loopVT Try.prog (sgOf sg26) (ltOf lt26) L26_2 lb26_2).slim L26_2.nv [] = rt26_2 := by kernel_rfl
theorem lf26_2 : (firstRegion lb26_2).bind (ltOf lt26) = some L26_2 := by kernel_rfl
theorem lk26_2 : (Code.loops lb26_2).length = 0 := by kernel_rfl
def vt26 : VT :=
  (.ite (.ite (.ite (.bin .lt (.n 64) (.un .len (.var 2))) (.t true) (.bin .lt (.n 256) (.un .len (.var 3)))) (.t true) (.bin .lt (.n 16) (.un .len (.var 4))))
   (.ret (.cons (.n 2) .nil))
   (.need (.t true) (.pre 52 (.cons (.var 0) .nil))
   (.lt (.app 52 (.cons (.var 0) .nil) 0) 1
   (.ite (.un .not (.var 5))
    (.ret (.cons (.n 5) .nil))
    (.need (.t true) (.pre 12600 (.cons (.n 0) (.cons (.un .len (.var 2)) (.cons (.n 0) (.cons (.var 0) (.cons (.var 1) (.cons (.var 2) (.cons (.var 3) (.cons (.var 4) .nil)))))))))
    (.lt (.app 12600 (.cons (.n 0) (.cons (.un .len (.var 2)) (.cons (.n 0) (.cons (.var 0) (.cons (.var 1) (.cons (.var 2) (.cons (.var 3) (.cons (.var 4) .nil)))))))) 0) 3
    (.ite (.bin .eq (.var 6) (.n 0))
     (.ret (.cons (.var 7) .nil))
     (.need (.t true) (.pre 12601 (.cons (.var 7) (.cons (.un .len (.var 4)) (.cons (.n 0) (.cons (.var 0) (.cons (.var 1) (.cons (.var 2) (.cons (.var 3) (.cons (.var 4) .nil)))))))))
     (.lt (.app 12601 (.cons (.var 7) (.cons (.un .len (.var 4)) (.cons (.n 0) (.cons (.var 0) (.cons (.var 1) (.cons (.var 2) (.cons (.var 3) (.cons (.var 4) .nil)))))))) 0) 3
     (.ite (.bin .eq (.var 9) (.n 0))
      (.ret (.cons (.var 10) .nil))
      (.need (.t true) (.pre 12602 (.cons (.var 10) (.cons (.var 3) (.cons (.un .len (.var 3)) (.cons (.n 0) (.cons (.var 0) (.cons (.var 1) (.cons (.var 2) (.cons (.var 3) (.cons (.var 4) .nil))))))))))
      (.lt (.app 12602 (.cons (.var 10) (.cons (.var 3) (.cons (.un .len (.var 3)) (.cons (.n 0) (.cons (.var 0) (.cons (.var 1) (.cons (.var 2) (.cons (.var 3) (.cons (.var 4) .nil))))))))) 0) 3
      (.ite (.bin .eq (.var 12) (.n 0))
       (.ret (.cons (.var 13) .nil))
       (.ret (.cons (.n 0) .nil)))))))))))))))
theorem e26 : (fnVT Try.prog (sgOf sg26) (ltOf lt26) S26 Try.f26 c26).slim (S26.ps.map fun p => p.2.length).sum [] = vt26 := by kernel_rfl
def S28 : Sig := ⟨[(true, [i6, i6, i6, i6, i6])], [(false, [.bool])], [], none⟩
noncomputable def c28 : Code := Try.f28.body.getD .skip
theorem b28 : Try.f28.body = some c28 := body_some (by kernel_rfl)
theorem n28 : (Try.f28.name == "runtime.NumGoroutine") = false := by kernel_rfl
def sg28 : List (FuncId × Sig) := []
def lt28 : List (Nat × LoopSig) := []
theorem k28 : (Code.loops c28).length = 0 := by kernel_rfl
def vt28 : VT :=
  (.ret (.cons (.ite (.bin .eq (.var 0) (.bin .min (.bin .max (.var 0) (.n 0)) (.n 4))) (.ite (.bin .eq (.var 1) (.bin .min (.bin .max (.var 1) (.n 0)) (.n 1048576))) (.ite (.bin .eq (.var 2) (.bin .min (.bin .max (.var 2) (.n 0)) (.n 1048576))) (.ite (.bin .eq (.var 3) (.bin .min (.bin .max (.var 3) (.n 0)) (.n 1048576))) (.bin .eq (.var 4) (.bin .min (.bin .max (.var 4) (.n 0)) (.n 100))) (.t false)) (.t false)) (.t false)) (.t false)) .nil))
theorem e28 : (fnVT Try.prog (sgOf sg28) (ltOf lt28) S28 Try.f28 c28).slim (S28.ps.map fun p => p.2.length).sum [] = vt28 := by kernel_rfl
def T28 : FuncId → List D → List D := tabOf []
def fn28 (ρ : List D) : List D := vt28.val T28 ρ
theorem m28 : Meets Try.prog 28 S28 (fun _ => True) fn28 := meets_easy (sgl := sg28) (Φ := T28) mixed ((fun _ h => nomatch h)) Try.func28 b28 n28 k28 e28 (by kernel_rfl)
def S47 : Sig := ⟨[(true, [i6, i6])], [(false, [.bool])], [], none⟩
noncomputable def c47 : Code := Try.f47.body.getD .skip
theorem b47 : Try.f47.body = some c47 := body_some (by kernel_rfl)
theorem n47 : (Try.f47.name == "runtime.NumGoroutine") = false := by kernel_rfl
def sg47 : List (FuncId × Sig) := []
def lt47 : List (Nat × LoopSig) := []
theorem k47 : (Code.loops c47).length = 0 := by kernel_rfl
def vt47 : VT :=
  (.ret (.cons (.ite (.ite (.ite (.bin .le (.n (-268435456)) (.var 0)) (.bin .le (.var 0) (.n 268435456)) (.t false)) (.bin .le (.n (-268435456)) (.var 1)) (.t false)) (.bin .le (.var 1) (.n 268435456)) (.t false)) .nil))
theorem e47 : (fnVT Try.prog (sgOf sg47) (ltOf lt47) S47 Try.f47 c47).slim (S47.ps.map fun p => p.2.length).sum [] = vt47 := by kernel_rfl
def T47 : FuncId → List D → List D := tabOf []
def fn47 (ρ : List D) : List D := vt47.val T47 ρ
theorem m47 : Meets Try.prog 47 S47 (fun _ => True) fn47 := meets_easy (sgl := sg47) (Φ := T47) mixed ((fun _ h => nomatch h)) Try.func47 b47 n47 k47 e47 (by kernel_rfl)
def S17 : Sig := ⟨[(true, [i6, i6, i6, i6])], [(false, [.bool])], [], none⟩
noncomputable def c17 : Code := Try.f17.body.getD .skip
theorem b17 : Try.f17.body = some c17 := body_some (by kernel_rfl)
theorem n17 : (Try.f17.name == "runtime.NumGoroutine") = false := by kernel_rfl
def sg17 : List (FuncId × Sig) := [(47, S47)]
def lt17 : List (Nat × LoopSig) := []
theorem k17 : (Code.loops c17).length = 0 := by kernel_rfl
def vt17 : VT :=
  (.need (.t true) (.pre 47 (.cons (.var 0) (.cons (.var 1) .nil)))
  (.lt (.app 47 (.cons (.var 0) (.cons (.var 1) .nil)) 0) 1
  (.need (.var 4) (.pre 47 (.cons (.var 2) (.cons (.var 3) .nil)))
  (.lt (.app 47 (.cons (.var 2) (.cons (.var 3) .nil)) 0) 1
  (.ret (.cons (.ite (.ite (.ite (.var 4) (.var 5) (.t false)) (.bin .le (.var 0) (.var 2)) (.t false)) (.bin .le (.var 1) (.var 3)) (.t false)) .nil))))))
theorem e17 : (fnVT Try.prog (sgOf sg17) (ltOf lt17) S17 Try.f17 c17).slim (S17.ps.map fun p => p.2.length).sum [] = vt17 := by kernel_rfl
def T17 : FuncId → List D → List D := tabOf [(47, fn47)]
def fn17 (ρ : List D) : List D := vt17.val T17 ρ
theorem m17 : Meets Try.prog 17 S17 (fun _ => True) fn17 := meets_easy (sgl := sg17) (Φ := T17) mixed (List.forall_mem_cons.2 ⟨m47, (fun _ h => nomatch h)⟩) Try.func17 b17 n17 k17 e17 (by kernel_rfl)
def S29 : Sig := ⟨[(true, [i6, i6, i6, i6])], [(true, [i6, i6])], [], none⟩
noncomputable def c29 : Code := Try.f29.body.getD .skip
theorem b29 : Try.f29.body = some c29 := body_some (by kernel_rfl)
theorem n29 : (Try.f29.name == "runtime.NumGoroutine") = false := by kernel_rfl
def sg29 : List (FuncId × Sig) := []
def lt29 : List (Nat × LoopSig) := []
theorem k29 : (Code.loops c29).length = 0 := by kernel_rfl
def vt29 : VT :=
  (.ret (.cons (.bin (.sub .i64) (.var 2) (.var 0)) (.cons (.bin (.sub .i64) (.var 3) (.var 1)) .nil)))
theorem e29 : (fnVT Try.prog (sgOf sg29) (ltOf lt29) S29 Try.f29 c29).slim (S29.ps.map fun p => p.2.length).sum [] = vt29 := by kernel_rfl
def T29 : FuncId → List D → List D := tabOf []
def fn29 (ρ : List D) : List D := vt29.val T29 ρ
theorem m29 : Meets Try.prog 29 S29 (fun _ => True) fn29 := meets_easy (sgl := sg29) (Φ := T29) mixed ((fun _ h => nomatch h)) Try.func29 b29 n29 k29 e29 (by kernel_rfl)
def S18 : Sig := ⟨[(true, [i6, i6, i6, i6]), (true, [i6, i6, i6, i6])], [(false, [.bool])], [], none⟩
noncomputable def c18 : Code := Try.f18.body.getD .skip
theorem b18 : Try.f18.body = some c18 := body_some (by kernel_rfl)
theorem n18 : (Try.f18.name == "runtime.NumGoroutine") = false := by kernel_rfl
def sg18 : List (FuncId × Sig) := [(17, S17)]
def lt18 : List (Nat × LoopSig) := []
theorem k18 : (Code.loops c18).length = 0 := by kernel_rfl
def vt18 : VT :=
  (.need (.t true) (.pre 17 (.cons (.var 0) (.cons (.var 1) (.cons (.var 2) (.cons (.var 3) .nil)))))
  (.lt (.app 17 (.cons (.var 0) (.cons (.var 1) (.cons (.var 2) (.cons (.var 3) .nil)))) 0) 1
  (.need (.var 8) (.pre 17 (.cons (.var 4) (.cons (.var 5) (.cons (.var 6) (.cons (.var 7) .nil)))))
  (.lt (.app 17 (.cons (.var 4) (.cons (.var 5) (.cons (.var 6) (.cons (.var 7) .nil)))) 0) 1
  (.ret (.cons (.ite (.ite (.ite (.var 8) (.var 9) (.t false)) (.bin .lt (.bin .max (.var 0) (.var 4)) (.bin .min (.var 2) (.var 6))) (.t false)) (.bin .lt (.bin .max (.var 1) (.var 5)) (.bin .min (.var 3) (.var 7))) (.t false)) .nil))))))
theorem e18 : (fnVT Try.prog (sgOf sg18) (ltOf lt18) S18 Try.f18 c18).slim (S18.ps.map fun p => p.2.length).sum [] = vt18 := by kernel_rfl
def T18 : FuncId → List D → List D := tabOf [(17, fn17)]
def fn18 (ρ : List D) : List D := vt18.val T18 ρ
theorem m18 : Meets Try.prog 18 S18 (fun _ => True) fn18 := meets_easy (sgl := sg18) (Φ := T18) mixed (List.forall_mem_cons.2 ⟨m17, (fun _ h => nomatch h)⟩) Try.func18 b18 n18 k18 e18 (by kernel_rfl)
def S77 : Sig := ⟨[(true, [i6, i6, i6, i6]), (false, [(.pt [i6, i6, i6, i6])])], [(false, [.bool])], [], none⟩
noncomputable def c77 : Code := Try.f77.body.getD .skip
theorem b77 : Try.f77.body = some c77 := body_some (by kernel_rfl)
theorem n77 : (Try.f77.name == "runtime.NumGoroutine") = false := by kernel_rfl
def sg77 : List (FuncId × Sig) := [(18, S18)]
def lt77 : List (Nat × LoopSig) := []
theorem k77 : (Code.loops c77).length = 0 := by kernel_rfl
def vt77 : VT :=
  (.need (.t true) (.pre 18 (.cons (.var 0) (.cons (.var 1) (.cons (.var 2) (.cons (.var 3) (.cons (.psel 0 (.var 4)) (.cons (.psel 1 (.var 4)) (.cons (.psel 2 (.var 4)) (.cons (.psel 3 (.var 4)) .nil)))))))))
  (.lt (.app 18 (.cons (.var 0) (.cons (.var 1) (.cons (.var 2) (.cons (.var 3) (.cons (.psel 0 (.var 4)) (.cons (.psel 1 (.var 4)) (.cons (.psel 2 (.var 4)) (.cons (.psel 3 (.var 4)) .nil)))))))) 0) 1
  (.ret (.cons (.var 5) .nil))))
theorem e77 : (fnVT Try.prog (sgOf sg77) (ltOf lt77) S77 Try.f77 c77).slim (S77.ps.map fun p => p.2.length).sum [] = vt77 := by kernel_rfl
def T77 : FuncId → List D → List D := tabOf [(18, fn18)]
def fn77 (ρ : List D) : List D := vt77.val T77 ρ
theorem m77 : Meets Try.prog 77 S77 (fun _ => True) fn77 := meets_easy (sgl := sg77) (Φ := T77) mixed (List.forall_mem_cons.2 ⟨m18, (fun _ h => nomatch h)⟩) Try.func77 b77 n77 k77 e77 (by kernel_rfl)
def S51 : Sig := ⟨[(false, [(.sl 40 [i6, i6, i6, i6])]), (false, [.clo])], [(false, [i6])], [], none⟩
noncomputable def c51 : Code := Try.f51.body.getD .skip
theorem b51 : Try.f51.body = some c51 := body_some (by kernel_rfl)
theorem n51 : (Try.f51.name == "runtime.NumGoroutine") = false := by kernel_rfl
def sg51 : List (FuncId × Sig) := [(20041, S20041)]
def L51_0 : LoopSig := ⟨15100, [],
   ⟨[(.c (.x (.sl 40 [i6, i6, i6, i6]) (.var 0))), (.c (.x .clo (.var 1))), .any, .any, (.c (.x i6 (.var 2))), .any, .any, (.c (.x i6 (.var 3))), (.c (.x i6 (.var 4))), .any, .any, .any, .any, .any, .any, .any, .any, .any, .any],
    []⟩,
   5, [2, 4], [9, 10, 5, 11, 12, 13, 14, 15, 16, 17, 4, 18, 8], [.ret, (.exit 0)], []⟩
def lt51 : List (Nat × LoopSig) := [(2, L51_0)]
theorem k51 : (Code.loops c51).length = 1 := by kernel_rfl
noncomputable def lb51_0 : Code := (Code.loops c51).getD 0 .skip
def rt51_0 : VT :=
  (.ite (.bin .lt (.var 4) (.var 3))
   (.need (.t true) (.c (.bin .le (.n 0) (.var 4)))
   (.need (.t true) (.c (.bin .lt (.var 4) (.un .len (.var 0))))
   (.need (.t true) (.pre 20041 (.cons (.var 1) (.cons (.sel 0 (.var 0) (.var 4)) (.cons (.sel 1 (.var 0) (.var 4)) (.cons (.sel 2 (.var 0) (.var 4)) (.cons (.sel 3 (.var 0) (.var 4)) .nil))))))
   (.lt (.app 20041 (.cons (.var 1) (.cons (.sel 0 (.var 0) (.var 4)) (.cons (.sel 1 (.var 0) (.var 4)) (.cons (.sel 2 (.var 0) (.var 4)) (.cons (.sel 3 (.var 0) (.var 4)) .nil))))) 0) 1
   (.ite (.var 5)
    (.ret (.cons (.n 0) (.cons (.var 4) (.cons (.var 4) .nil))))
    (.ret (.cons (.n (-1)) (.cons (.var 2) (.cons (.bin (.add .i64) (.var 4) (.n 1)) .nil)))))))))
   (.ret (.cons (.n 1) (.cons (.var 2) (.cons (.var 4) .nil)))))
theorem le51_0 : (loopVT Try.prog (sgOf sg51) (ltOf lt51) L51_0 lb51_0).slim L51_0.nv [] = rt51_0 := by kernel_rfl
theorem lf51_0 : (firstRegion lb51_0).bind (ltOf lt51) = some L51_0 := by kernel_rfl
theorem lk51_0 : (Code.loops lb51_0).length = 0 := by kernel_rfl
def vt51 : VT :=
  (.need (.t true) (.pre 15100 (.cons (.var 0) (.cons (.var 1) (.cons (.n 0) (.cons (.un .len (.var 0)) (.cons (.n 0) .nil))))))
  (.lt (.app 15100 (.cons (.var 0) (.cons (.var 1) (.cons (.n 0) (.cons (.un .len (.var 0)) (.cons (.n 0) .nil))))) 0) 3
  (.ite (.bin .eq (.var 2) (.n 0))
   (.ret (.cons (.var 3) .nil))
   (.ret (.cons (.n (-1)) .nil)))))
theorem e51 : (fnVT Try.prog (sgOf sg51) (ltOf lt51) S51 Try.f51 c51).slim (S51.ps.map fun p => p.2.length).sum [] = vt51 := by kernel_rfl
def S25 : Sig := ⟨[(false, [(.sl 40 [i6, i6, i6, i6])]), (false, [.clo])], [(false, [.bool])], [], none⟩
noncomputable def c25 : Code := Try.f25.body.getD .skip
theorem b25 : Try.f25.body = some c25 := body_some (by kernel_rfl)
theorem n25 : (Try.f25.name == "runtime.NumGoroutine") = false := by kernel_rfl
def sg25 : List (FuncId × Sig) := [(51, S51)]
def lt25 : List (Nat × LoopSig) := []
theorem k25 : (Code.loops c25).length = 0 := by kernel_rfl
def vt25 : VT :=
  (.need (.t true) (.pre 51 (.cons (.var 0) (.cons (.var 1) .nil)))
  (.lt (.app 51 (.cons (.var 0) (.cons (.var 1) .nil)) 0) 1
  (.ret (.cons (.bin .le (.n 0) (.var 2)) .nil))))
theorem e25 : (fnVT Try.prog (sgOf sg25) (ltOf lt25) S25 Try.f25 c25).slim (S25.ps.map fun p => p.2.length).sum [] = vt25 := by kernel_rfl
def S48 : Sig := ⟨[(true, [.str, .bool, (.sl 38 [.str, .str, i6, i6, i6, (.sl 53 [.str, i6])]), (.sl 55 [i6, i6, i6, i6, .str, i6, i6]), (.sl 50 [.str, i6])]), (true, [i6, i6, i6, i6, i6]), (false, [(.sl 40 [i6, i6, i6, i6])])], [(false, [i6])], [], none⟩
noncomputable def c48 : Code := Try.f48.body.getD .skip
theorem b48 : Try.f48.body = some c48 := body_some (by kernel_rfl)
theorem n48 : (Try.f48.name == "runtime.NumGoroutine") = false := by kernel_rfl
def sg48 : List (FuncId × Sig) := [(26, S26), (28, S28), (17, S17), (29, S29), (25, S25)]
def L48_0 : LoopSig := ⟨14800, [],
   ⟨[.any, .any, .any, (.c (.ptr 0 0)), .any, .any, (.c (.x i6 (.var 0))), .any, .any, .any, .any, .any, .any, .any, .any, .any, .any, .any, .any, .any, .any, .any, .any, .any, .any, .any, (.c (.x (.sl 40 [i6, i6, i6, i6]) (.var 1))), (.c (.x i6 (.var 2))), (.c (.x i6 (.var 3))), .any, .any, .any, .any, .any, .any, .any, .any, .any, .any, .any, .any, .any, .any, .any, .any, .any, .any, .any, .any, .any, .any, .any, .any, .any, .any, .any, .any, .any, .any, .any, .any, .any, .any, .any, .any, .any, .any, .any],
    [some ⟨(.t true), (.box 26 [(.x .str (.var 4)), (.x .bool (.var 5)), (.x (.sl 38 [.str, .str, i6, i6, i6, (.sl 53 [.str, i6])]) (.var 6)), (.x (.sl 55 [i6, i6, i6, i6, .str, i6, i6]) (.var 7)), (.x (.sl 50 [.str, i6]) (.var 8))] false)⟩]⟩,
   9, [0, 3], [29, 30, 31, 32, 9, 8, 33, 34, 35, 36, 37, 38, 39, 40, 41, 42, 43, 44, 45, 46, 47, 48, 49, 50, 51, 52, 53, 6, 54, 28], [.ret, (.exit 0)], []⟩
def L48_1 : LoopSig := ⟨14801, [],
   ⟨[.any, .any, (.c (.x (.sl 40 [i6, i6, i6, i6]) (.var 0))), .any, .any, .any, (.c (.x i6 (.var 1))), .any, .any, .any, .any, .any, .any, .any, .any, .any, .any, .any, .any, .any, .any, .any, .any, .any, .any, .any, .any, .any, .any, .any, .any, .any, .any, .any, .any, .any, .any, .any, .any, .any, .any, .any, .any, .any, .any, .any, .any, .any, .any, .any, .any, .any, .any, .any, .any, (.c (.x (.sl 40 [i6, i6, i6, i6]) (.var 2))), (.c (.x i6 (.var 3))), (.c (.x i6 (.var 4))), .any, .any, .any, .any, .any, .any, .any, .any, .any, .any],
    []⟩,
   5, [1, 4], [58, 59, 60, 61, 11, 10, 62, 63, 64, 65, 66, 6, 67, 57], [.ret, (.exit 2)], []⟩
def lt48 : List (Nat × LoopSig) := [(9, L48_0), (15, L48_1)]
theorem k48 : (Code.loops c48).length = 2 := by kernel_rfl
noncomputable def lb48_0 : Code := (Code.loops c48).getD 0 .skip
noncomputable def lb48_1 : Code := (Code.loops c48).getD 1 .skip
def rt48_0 : VT :=
  (.ite (.bin .lt (.var 3) (.var 2))
   (.need (.t true) (.c (.bin .le (.n 0) (.var 3)))
   (.need (.t true) (.c (.bin .lt (.var 3) (.un .len (.var 1))))
   (.need (.t true) (.pre 17 (.cons (.sel 0 (.var 1) (.var 3)) (.cons (.sel 1 (.var 1) (.var 3)) (.cons (.sel 2 (.var 1) (.var 3)) (.cons (.sel 3 (.var 1) (.var 3)) .nil)))))
   (.lt (.app 17 (.cons (.sel 0 (.var 1) (.var 3)) (.cons (.sel 1 (.var 1) (.var 3)) (.cons (.sel 2 (.var 1) (.var 3)) (.cons (.sel 3 (.var 1) (.var 3)) .nil)))) 0) 1
   (.need (.var 9) (.pre 29 (.cons (.sel 0 (.var 1) (.var 3)) (.cons (.sel 1 (.var 1) (.var 3)) (.cons (.sel 2 (.var 1) (.var 3)) (.cons (.sel 3 (.var 1) (.var 3)) .nil)))))
   (.lt (.app 29 (.cons (.sel 0 (.var 1) (.var 3)) (.cons (.sel 1 (.var 1) (.var 3)) (.cons (.sel 2 (.var 1) (.var 3)) (.cons (.sel 3 (.var 1) (.var 3)) .nil)))) 0) 2
   (.need (.var 9) (.c (.bin .lt (.var 3) (.un .len (.var 6))))
   (.ite (.ite (.un .not (.var 9)) (.t true) (.un .not (.ite (.bin .eq (.var 10) (.sel 2 (.var 6) (.var 3))) (.bin .eq (.var 11) (.sel 3 (.var 6) (.var 3))) (.t false))))
    (.ret (.cons (.n 0) (.cons (.n 1) (.cons (.var 3) .nil))))
    (.ret (.cons (.n (-1)) (.cons (.var 0) (.cons (.bin (.add .i64) (.var 3) (.n 1)) .nil))))))))))))
   (.ret (.cons (.n 1) (.cons (.var 0) (.cons (.var 3) .nil)))))
theorem le48_0 : (loopVT Try.prog (sgOf sg48) (ltOf lt48) L48_0 lb48_0).slim L48_0.nv [] = rt48_0 := by kernel_rfl
theorem lf48_0 : (firstRegion lb48_0).bind (ltOf lt48) = some L48_0 := by kernel_rfl
theorem lk48_0 : (Code.loops lb48_0).length = 0 := by kernel_rfl
def rt48_1 : VT :=
  (.ite (.bin .lt (.var 4) (.var 3))
   (.need (.t true) (.c (.bin .le (.n 0) (.var 4)))
   (.need (.t true) (.c (.bin .lt (.var 4) (.un .len (.var 2))))
   (.need (.t true) (.c (.bin .le (.var 4) (.un .len (.var 0))))
   (.need (.t true) (.pre 25 (.cons (.sub (.var 0) (.n 0) (.var 4)) (.cons (.clo 77 [(.pt [i6, i6, i6, i6])] (.cons (.pk (.cons (.sel 0 (.var 2) (.var 4)) (.cons (.sel 1 (.var 2) (.var 4)) (.cons (.sel 2 (.var 2) (.var 4)) (.cons (.sel 3 (.var 2) (.var 4)) .nil))))) .nil)) .nil)))
   (.lt (.app 25 (.cons (.sub (.var 0) (.n 0) (.var 4)) (.cons (.clo 77 [(.pt [i6, i6, i6, i6])] (.cons (.pk (.cons (.sel 0 (.var 2) (.var 4)) (.cons (.sel 1 (.var 2) (.var 4)) (.cons (.sel 2 (.var 2) (.var 4)) (.cons (.sel 3 (.var 2) (.var 4)) .nil))))) .nil)) .nil)) 0) 1
   (.ite (.var 5)
    (.ret (.cons (.n 0) (.cons (.n 14) (.cons (.var 4) .nil))))
    (.ret (.cons (.n (-1)) (.cons (.var 1) (.cons (.bin (.add .i64) (.var 4) (.n 1)) .nil))))))))))
   (.ret (.cons (.n 1) (.cons (.var 1) (.cons (.var 4) .nil)))))
theorem le48_1 : (loopVT Try.prog (sgOf sg48) (ltOf lt48) L48_1 lb48_1).slim L48_1.nv [] = rt48_1 := by kernel_rfl
theorem lf48_1 : (firstRegion lb48_1).bind (ltOf lt48) = some L48_1 := by kernel_rfl
theorem lk48_1 : (Code.loops lb48_1).length = 0 := by kernel_rfl
def vt48 : VT :=
  (.need (.t true) (.pre 26 (.cons (.var 0) (.cons (.var 1) (.cons (.var 2) (.cons (.var 3) (.cons (.var 4) .nil))))))
  (.lt (.app 26 (.cons (.var 0) (.cons (.var 1) (.cons (.var 2) (.cons (.var 3) (.cons (.var 4) .nil))))) 0) 1
  (.ite (.un .not (.bin .eq (.var 11) (.n 0)))
   (.ret (.cons (.var 11) .nil))
   (.need (.t true) (.pre 28 (.cons (.var 5) (.cons (.var 6) (.cons (.var 7) (.cons (.var 8) (.cons (.var 9) .nil))))))
   (.lt (.app 28 (.cons (.var 5) (.cons (.var 6) (.cons (.var 7) (.cons (.var 8) (.cons (.var 9) .nil))))) 0) 1
   (.ite (.un .not (.var 12))
    (.ret (.cons (.n 7) .nil))
    (.ite (.un .not (.bin .eq (.un .len (.var 10)) (.un .len (.var 2))))
     (.ret (.cons (.n 1) .nil))
     (.need (.t true) (.pre 14800 (.cons (.n 0) (.cons (.var 10) (.cons (.un .len (.var 10)) (.cons (.n 0) (.cons (.var 0) (.cons (.var 1) (.cons (.var 2) (.cons (.var 3) (.cons (.var 4) .nil))))))))))
     (.lt (.app 14800 (.cons (.n 0) (.cons (.var 10) (.cons (.un .len (.var 10)) (.cons (.n 0) (.cons (.var 0) (.cons (.var 1) (.cons (.var 2) (.cons (.var 3) (.cons (.var 4) .nil))))))))) 0) 3
     (.ite (.bin .eq (.var 13) (.n 0))
      (.ret (.cons (.var 14) .nil))
      (.need (.t true) (.pre 14801 (.cons (.var 10) (.cons (.var 14) (.cons (.var 10) (.cons (.un .len (.var 10)) (.cons (.n 0) .nil))))))
      (.lt (.app 14801 (.cons (.var 10) (.cons (.var 14) (.cons (.var 10) (.cons (.un .len (.var 10)) (.cons (.n 0) .nil))))) 0) 3
      (.ite (.bin .eq (.var 16) (.n 0))
       (.ret (.cons (.var 17) .nil))
       (.ret (.cons (.n 0) .nil)))))))))))))))
theorem e48 : (fnVT Try.prog (sgOf sg48) (ltOf lt48) S48 Try.f48 c48).slim (S48.ps.map fun p => p.2.length).sum [] = vt48 := by kernel_rfl
def S22 : Sig := ⟨[(false, [(.pn [.str, .bool, (.sl 38 [.str, .str, i6, i6, i6, (.sl 53 [.str, i6])]), (.sl 55 [i6, i6, i6, i6, .str, i6, i6]), (.sl 50 [.str, i6]), i6, i6, i6, i6, i6, (.sl 40 [i6, i6, i6, i6]), (.sl 59 [(.sl 61 [i6, i6, i6, i6, i6])]), (.sl 75 [i6, i6])])]), (false, [i6])], [(false, [(.sl 3 [i6])])], [], none⟩
noncomputable def c22 : Code := Try.f22.body.getD .skip
theorem b22 : Try.f22.body = some c22 := body_some (by kernel_rfl)
theorem n22 : (Try.f22.name == "runtime.NumGoroutine") = false := by kernel_rfl
def sg22 : List (FuncId × Sig) := []
def L22_0 : LoopSig := ⟨12200, [(5, none, 3)],
   ⟨[.any, (.c (.x i6 (.var 0))), .any, .any, .any, (.c (.row 0 1)), .any, .any, .any, .any, .any, .any, (.c (.x (.sl 38 [.str, .str, i6, i6, i6, (.sl 53 [.str, i6])]) (.var 1))), (.c (.x i6 (.var 2))), (.c (.x i6 (.var 3))), .any, .any, .any, .any, .any, .any, .any, .any, .any, .any, .any, .any, .any, .any],
    [some ⟨(.t true), (.row 3 [i6] (.var 4) 1 false)⟩]⟩,
   5, [3, 4], [15, 16, 17, 18, 7, 6, 19, 20, 21, 22, 23, 24, 25, 26, 5, 27, 14], [(.exit 0)], [4]⟩
def lt22 : List (Nat × LoopSig) := [(3, L22_0)]
theorem k22 : (Code.loops c22).length = 1 := by kernel_rfl
noncomputable def lb22_0 : Code := (Code.loops c22).getD 0 .skip
def rt22_0 : VT :=
  (.ite (.bin .lt (.var 3) (.var 2))
   (.need (.t true) (.c (.bin .le (.n 0) (.var 3)))
   (.need (.t true) (.c (.bin .lt (.var 3) (.un .len (.var 1))))
   (.ite (.bin .eq (.sel 4 (.var 1) (.var 3)) (.var 0))
    (.need (.t true) (.c (.bin .le (.un .len (.bin .cat (.var 4) (.lcons (.cons (.var 3) .nil) .lnil))) (.n 17592186044416)))
    (.ret (.cons (.n (-1)) (.cons (.bin (.add .i64) (.var 3) (.n 1)) (.cons (.bin .cat (.var 4) (.lcons (.cons (.var 3) .nil) .lnil)) .nil)))))
    (.ret (.cons (.n (-1)) (.cons (.bin (.add .i64) (.var 3) (.n 1)) (.cons (.var 4) .nil)))))))
   (.ret (.cons (.n 0) (.cons (.var 3) (.cons (.var 4) .nil)))))
theorem le22_0 : (loopVT Try.prog (sgOf sg22) (ltOf lt22) L22_0 lb22_0).slim L22_0.nv [] = rt22_0 := by kernel_rfl
theorem lf22_0 : (firstRegion lb22_0).bind (ltOf lt22) = some L22_0 := by kernel_rfl
theorem lk22_0 : (Code.loops lb22_0).length = 0 := by kernel_rfl
def vt22 : VT :=
  (.need (.t true) (.c (.un (.pnn 13) (.var 0)))
  (.need (.t true) (.pre 12200 (.cons (.var 1) (.cons (.psel 2 (.var 0)) (.cons (.un .len (.psel 2 (.var 0))) (.cons (.n 0) (.cons .lnil .nil))))))
  (.lt (.app 12200 (.cons (.var 1) (.cons (.psel 2 (.var 0)) (.cons (.un .len (.psel 2 (.var 0))) (.cons (.n 0) (.cons .lnil .nil))))) 0) 3
  (.ret (.cons (.var 4) .nil)))))
theorem e22 : (fnVT Try.prog (sgOf sg22) (ltOf lt22) S22 Try.f22 c22).slim (S22.ps.map fun p => p.2.length).sum [] = vt22 := by kernel_rfl
def S50 : Sig := ⟨[(false, [(.sl 40 [i6, i6, i6, i6])])], [(true, [i6, i6, i6, i6])], [], none⟩
noncomputable def c50 : Code := Try.f50.body.getD .skip
theorem b50 : Try.f50.body = some c50 := body_some (by kernel_rfl)
theorem n50 : (Try.f50.name == "runtime.NumGoroutine") = false := by kernel_rfl
def sg50 : List (FuncId × Sig) := [(17, S17)]
def L50_0 : LoopSig := ⟨15000, [],
   ⟨[.any, .any, .any, (.c (.ptr 1 0)), (.c (.x .bool (.var 0))), .any, .any, (.c (.x (.sl 40 [i6, i6, i6, i6]) (.var 1))), (.c (.x i6 (.var 2))), (.c (.x i6 (.var 3))), .any, .any, .any, .any, .any, .any, .any, .any, .any, .any, .any, .any, .any, .any, .any, .any, .any, .any, .any, .any, .any, .any, .any, .any, .any, .any, .any, .any, .any, .any, .any, .any, .any],
    [none, some ⟨(.t true), (.box 40 [(.x i6 (.var 4)), (.x i6 (.var 5)), (.x i6 (.var 6)), (.x i6 (.var 7))] false)⟩]⟩,
   8, [0, 3, 4, 5, 6, 7], [10, 11, 12, 6, 35, 36, 37, 34, 39, 38, 40, 4, 13, 14, 15, 16, 17, 18, 19, 20, 21, 22, 23, 24, 25, 26, 27, 28, 29, 30, 31, 32, 33, 41, 9], [(.exit 0)], []⟩
def lt50 : List (Nat × LoopSig) := [(4, L50_0)]
theorem k50 : (Code.loops c50).length = 1 := by kernel_rfl
noncomputable def lb50_0 : Code := (Code.loops c50).getD 0 .skip
def rt50_0 : VT :=
  (.ite (.bin .lt (.var 3) (.var 2))
   (.need (.t true) (.c (.bin .le (.n 0) (.var 3)))
   (.need (.t true) (.c (.bin .lt (.var 3) (.un .len (.var 1))))
   (.need (.t true) (.pre 17 (.cons (.sel 0 (.var 1) (.var 3)) (.cons (.sel 1 (.var 1) (.var 3)) (.cons (.sel 2 (.var 1) (.var 3)) (.cons (.sel 3 (.var 1) (.var 3)) .nil)))))
   (.lt (.app 17 (.cons (.sel 0 (.var 1) (.var 3)) (.cons (.sel 1 (.var 1) (.var 3)) (.cons (.sel 2 (.var 1) (.var 3)) (.cons (.sel 3 (.var 1) (.var 3)) .nil)))) 0) 1
   (.ite (.un .not (.var 8))
    (.ret (.cons (.n (-1)) (.cons (.var 0) (.cons (.bin (.add .i64) (.var 3) (.n 1)) (.cons (.var 4) (.cons (.var 5) (.cons (.var 6) (.cons (.var 7) .nil))))))))
    (.ite (.var 0)
     (.ret (.cons (.n (-1)) (.cons (.t false) (.cons (.bin (.add .i64) (.var 3) (.n 1)) (.cons (.sel 0 (.var 1) (.var 3)) (.cons (.sel 1 (.var 1) (.var 3)) (.cons (.sel 2 (.var 1) (.var 3)) (.cons (.sel 3 (.var 1) (.var 3)) .nil))))))))
     (.ret (.cons (.n (-1)) (.cons (.var 0) (.cons (.bin (.add .i64) (.var 3) (.n 1)) (.cons (.bin .min (.var 4) (.sel 0 (.var 1) (.var 3))) (.cons (.bin .min (.var 5) (.sel 1 (.var 1) (.var 3))) (.cons (.bin .max (.var 6) (.sel 2 (.var 1) (.var 3))) (.cons (.bin .max (.var 7) (.sel 3 (.var 1) (.var 3))) .nil))))))))))))))
   (.ret (.cons (.n 0) (.cons (.var 0) (.cons (.var 3) (.cons (.var 4) (.cons (.var 5) (.cons (.var 6) (.cons (.var 7) .nil)))))))))
theorem le50_0 : (loopVT Try.prog (sgOf sg50) (ltOf lt50) L50_0 lb50_0).slim L50_0.nv [] = rt50_0 := by kernel_rfl
theorem lf50_0 : (firstRegion lb50_0).bind (ltOf lt50) = some L50_0 := by kernel_rfl
theorem lk50_0 : (Code.loops lb50_0).length = 0 := by kernel_rfl
def vt50 : VT :=
  (.need (.t true) (.pre 15000 (.cons (.t true) (.cons (.var 0) (.cons (.un .len (.var 0)) (.cons (.n 0) (.cons (.n 0) (.cons (.n 0) (.cons (.n 0) (.cons (.n 0) .nil)))))))))
  (.lt (.app 15000 (.cons (.t true) (.cons (.var 0) (.cons (.un .len (.var 0)) (.cons (.n 0) (.cons (.n 0) (.cons (.n 0) (.cons (.n 0) (.cons (.n 0) .nil)))))))) 0) 7
  (.ret (.cons (.var 4) (.cons (.var 5) (.cons (.var 6) (.cons (.var 7) .nil)))))))
theorem e50 : (fnVT Try.prog (sgOf sg50) (ltOf lt50) S50 Try.f50 c50).slim (S50.ps.map fun p => p.2.length).sum [] = vt50 := by kernel_rfl
def S23 : Sig := ⟨[(false, [(.pn [.str, .bool, (.sl 38 [.str, .str, i6, i6, i6, (.sl 53 [.str, i6])]), (.sl 55 [i6, i6, i6, i6, .str, i6, i6]), (.sl 50 [.str, i6]), i6, i6, i6, i6, i6, (.sl 40 [i6, i6, i6, i6]), (.sl 59 [(.sl 61 [i6, i6, i6, i6, i6])]), (.sl 75 [i6, i6])])]), (false, [(.sl 3 [i6])])], [(true, [i6, i6, i6, i6])], [], none⟩
noncomputable def c23 : Code := Try.f23.body.getD .skip
theorem b23 : Try.f23.body = some c23 := body_some (by kernel_rfl)
theorem n23 : (Try.f23.name == "runtime.NumGoroutine") = false := by kernel_rfl
def sg23 : List (FuncId × Sig) := [(50, S50)]
def L23_0 : LoopSig := ⟨12300, [(5, none, 40)],
   ⟨[(.c (.x (.pn [.str, .bool, (.sl 38 [.str, .str, i6, i6, i6, (.sl 53 [.str, i6])]), (.sl 55 [i6, i6, i6, i6, .str, i6, i6]), (.sl 50 [.str, i6]), i6, i6, i6, i6, i6, (.sl 40 [i6, i6, i6, i6]), (.sl 59 [(.sl 61 [i6, i6, i6, i6, i6])]), (.sl 75 [i6, i6])]) (.var 0))), .any, .any, .any, .any, (.c (.row 1 1)), .any, .any, (.c (.x (.sl 3 [i6]) (.var 1))), (.c (.x i6 (.var 2))), (.c (.x i6 (.var 3))), .any, .any, .any, .any, .any, .any, .any, .any, .any, .any, .any, .any, .any, .any, .any, .any],
    [none, some ⟨(.t true), (.row 40 [i6, i6, i6, i6] (.var 4) 1 false)⟩]⟩,
   5, [3, 4], [11, 12, 13, 7, 14, 15, 16, 17, 18, 19, 20, 21, 22, 23, 5, 24, 10], [(.exit 0)], [4]⟩
def lt23 : List (Nat × LoopSig) := [(3, L23_0)]
theorem k23 : (Code.loops c23).length = 1 := by kernel_rfl
noncomputable def lb23_0 : Code := (Code.loops c23).getD 0 .skip
def rt23_0 : VT :=
  (.ite (.bin .lt (.var 3) (.var 2))
   (.need (.t true) (.c (.bin .le (.n 0) (.var 3)))
   (.need (.t true) (.c (.bin .lt (.var 3) (.un .len (.var 1))))
   (.need (.t true) (.c (.un (.pnn 13) (.var 0)))
   (.need (.t true) (.c (.bin .le (.n 0) (.sel 0 (.var 1) (.var 3))))
   (.need (.t true) (.c (.bin .lt (.sel 0 (.var 1) (.var 3)) (.un .len (.psel 10 (.var 0)))))
   (.need (.t true) (.c (.bin .le (.un .len (.bin .cat (.var 4) (.lcons (.cons (.sel 0 (.psel 10 (.var 0)) (.sel 0 (.var 1) (.var 3))) (.cons (.sel 1 (.psel 10 (.var 0)) (.sel 0 (.var 1) (.var 3))) (.cons (.sel 2 (.psel 10 (.var 0)) (.sel 0 (.var 1) (.var 3))) (.cons (.sel 3 (.psel 10 (.var 0)) (.sel 0 (.var 1) (.var 3))) .nil)))) .lnil))) (.n 4398046511104)))
   (.ret (.cons (.n (-1)) (.cons (.bin (.add .i64) (.var 3) (.n 1)) (.cons (.bin .cat (.var 4) (.lcons (.cons (.sel 0 (.psel 10 (.var 0)) (.sel 0 (.var 1) (.var 3))) (.cons (.sel 1 (.psel 10 (.var 0)) (.sel 0 (.var 1) (.var 3))) (.cons (.sel 2 (.psel 10 (.var 0)) (.sel 0 (.var 1) (.var 3))) (.cons (.sel 3 (.psel 10 (.var 0)) (.sel 0 (.var 1) (.var 3))) .nil)))) .lnil)) .nil))))))))))
   (.ret (.cons (.n 0) (.cons (.var 3) (.cons (.var 4) .nil)))))
theorem le23_0 : (loopVT Try.prog (sgOf sg23) (ltOf lt23) L23_0 lb23_0).slim L23_0.nv [] = rt23_0 := by kernel_rfl
theorem lf23_0 : (firstRegion lb23_0).bind (ltOf lt23) = some L23_0 := by kernel_rfl
theorem lk23_0 : (Code.loops lb23_0).length = 0 := by kernel_rfl
def vt23 : VT :=
  (.need (.t true) (.pre 12300 (.cons (.var 0) (.cons (.var 1) (.cons (.un .len (.var 1)) (.cons (.n 0) (.cons .lnil .nil))))))
  (.lt (.app 12300 (.cons (.var 0) (.cons (.var 1) (.cons (.un .len (.var 1)) (.cons (.n 0) (.cons .lnil .nil))))) 0) 3
  (.need (.t true) (.pre 50 (.cons (.var 4) .nil))
  (.lt (.app 50 (.cons (.var 4) .nil) 0) 4
  (.ret (.cons (.var 5) (.cons (.var 6) (.cons (.var 7) (.cons (.var 8) .nil)))))))))
theorem e23 : (fnVT Try.prog (sgOf sg23) (ltOf lt23) S23 Try.f23 c23).slim (S23.ps.map fun p => p.2.length).sum [] = vt23 := by kernel_rfl
def S99 : Sig := ⟨[(false, [(.sl 75 [i6, i6])]), (false, [i6]), (false, [i6])], [(false, [i6])], [], none⟩
noncomputable def c99 : Code := Try.f99.body.getD .skip
theorem b99 : Try.f99.body = some c99 := body_some (by kernel_rfl)
theorem n99 : (Try.f99.name == "runtime.NumGoroutine") = false := by kernel_rfl
def sg99 : List (FuncId × Sig) := []
def L99_0 : LoopSig := ⟨19900, [],
   ⟨[.any, .any, .any, .any, .any, .any, (.c (.x i6 (.var 0))), .any, .any, (.c (.x (.sl 75 [i6, i6]) (.var 1))), (.c (.x i6 (.var 2))), (.c (.x i6 (.var 3))), .any, .any, .any, .any, .any, .any, .any, .any, .any, .any, .any, .any, .any, .any, .any, .any, .any, .any, .any, .any, .any, .any, .any, .any, .any, .any, .any, .any, .any, .any, .any, .any, .any, .any, .any, .any, .any],
    []⟩,
   4, [0, 3], [12, 13, 14, 8, 15, 16, 17, 18, 19, 20, 21, 22, 23, 24, 25, 26, 27, 28, 6, 29, 11], [.ret, (.exit 0)], []⟩
def lt99 : List (Nat × LoopSig) := [(2, L99_0)]
theorem k99 : (Code.loops c99).length = 1 := by kernel_rfl
noncomputable def lb99_0 : Code := (Code.loops c99).getD 0 .skip
def rt99_0 : VT :=
  (.ite (.bin .lt (.var 3) (.var 2))
   (.need (.t true) (.c (.bin .le (.n 0) (.var 3)))
   (.need (.t true) (.c (.bin .lt (.var 3) (.un .len (.var 1))))
   (.ite (.ite (.bin .lt (.bin .min (.sel 0 (.var 1) (.var 3)) (.sel 1 (.var 1) (.var 3))) (.n 0)) (.t true) (.bin .lt (.n 1048576) (.bin .max (.sel 0 (.var 1) (.var 3)) (.sel 1 (.var 1) (.var 3)))))
    (.ret (.cons (.n 0) (.cons (.n 1) (.cons (.var 3) .nil))))
    (.ret (.cons (.n (-1)) (.cons (.var 0) (.cons (.bin (.add .i64) (.var 3) (.n 1)) .nil)))))))
   (.ret (.cons (.n 1) (.cons (.var 0) (.cons (.var 3) .nil)))))
theorem le99_0 : (loopVT Try.prog (sgOf sg99) (ltOf lt99) L99_0 lb99_0).slim L99_0.nv [] = rt99_0 := by kernel_rfl
theorem lf99_0 : (firstRegion lb99_0).bind (ltOf lt99) = some L99_0 := by kernel_rfl
theorem lk99_0 : (Code.loops lb99_0).length = 0 := by kernel_rfl
def vt99 : VT :=
  (.need (.t true) (.pre 19900 (.cons (.n 0) (.cons (.var 0) (.cons (.un .len (.var 0)) (.cons (.n 0) .nil)))))
  (.lt (.app 19900 (.cons (.n 0) (.cons (.var 0) (.cons (.un .len (.var 0)) (.cons (.n 0) .nil)))) 0) 3
  (.ite (.bin .eq (.var 3) (.n 0))
   (.ret (.cons (.var 4) .nil))
   (.ite (.ite (.ite (.ite (.bin .lt (.var 1) (.n 0)) (.t true) (.bin .lt (.n 268435456) (.var 1))) (.t true) (.bin .lt (.var 2) (.n 0))) (.t true) (.bin .lt (.n 1048576) (.var 2)))
    (.ret (.cons (.n 1) .nil))
    (.ite (.bin .lt (.n 64) (.un .len (.var 0)))
     (.ret (.cons (.n 2) .nil))
     (.ret (.cons (.n 0) .nil)))))))
theorem e99 : (fnVT Try.prog (sgOf sg99) (ltOf lt99) S99 Try.f99 c99).slim (S99.ps.map fun p => p.2.length).sum [] = vt99 := by kernel_rfl
def S100 : Sig := ⟨[(false, [(.sl 75 [i6, i6])]), (false, [i6]), (false, [i6])], [(false, [(.sl 40 [i6, i6, i6, i6])])], [], none⟩
noncomputable def c100 : Code := Try.f100.body.getD .skip
theorem b100 : Try.f100.body = some c100 := body_some (by kernel_rfl)
theorem n100 : (Try.f100.name == "runtime.NumGoroutine") = false := by kernel_rfl
def sg100 : List (FuncId × Sig) := []
def L100_0 : LoopSig := ⟨20000, [(7, none, 40)],
   ⟨[.any, (.c (.x i6 (.var 0))), (.c (.x i6 (.var 1))), .any, .any, .any, .any, (.c (.row 0 1)), (.c (.x i6 (.var 2))), (.c (.x i6 (.var 3))), (.c (.x i6 (.var 4))), .any, .any, (.c (.x (.sl 75 [i6, i6]) (.var 5))), (.c (.x i6 (.var 6))), (.c (.x i6 (.var 7))), .any, .any, .any, .any, .any, .any, .any, .any, .any, .any, .any, .any, .any, .any, .any, .any, .any, .any, .any, .any, .any, .any, .any, .any, .any, .any, .any, .any, .any, .any, .any, .any, .any, .any, .any, .any, .any, .any, .any, .any, .any, .any, .any, .any, .any, .any],
    [some ⟨(.t true), (.row 40 [i6, i6, i6, i6] (.var 8) 1 false)⟩]⟩,
   9, [2, 3, 4, 7, 8], [16, 17, 18, 19, 12, 11, 20, 21, 22, 23, 24, 25, 26, 27, 28, 29, 30, 31, 32, 8, 9, 33, 10, 34, 35, 36, 37, 38, 39, 40, 41, 42, 43, 44, 45, 46, 47, 7, 48, 49, 50, 51, 52, 53, 54, 55, 56, 57, 58, 59, 60, 15], [(.exit 0)], [8]⟩
def lt100 : List (Nat × LoopSig) := [(4, L100_0)]
theorem k100 : (Code.loops c100).length = 1 := by kernel_rfl
noncomputable def lb100_0 : Code := (Code.loops c100).getD 0 .skip
def rt100_0 : VT :=
  (.ite (.bin .lt (.var 7) (.var 6))
   (.need (.t true) (.c (.bin .le (.n 0) (.var 7)))
   (.need (.t true) (.c (.bin .lt (.var 7) (.un .len (.var 5))))
   (.ite (.ite (.bin .lt (.n 0) (.var 7)) (.bin .lt (.var 0) (.bin (.add .i64) (.var 2) (.sel 0 (.var 5) (.var 7)))) (.t false))
    (.need (.t true) (.c (.bin .le (.un .len (.bin .cat (.var 8) (.lcons (.cons (.n 0) (.cons (.bin (.add .i64) (.var 4) (.var 1)) (.cons (.bin (.add .i64) (.n 0) (.sel 0 (.var 5) (.var 7))) (.cons (.bin (.add .i64) (.bin (.add .i64) (.var 4) (.var 1)) (.sel 1 (.var 5) (.var 7))) .nil)))) .lnil))) (.n 4398046511104)))
    (.ret (.cons (.n (-1)) (.cons (.bin (.add .i64) (.n 0) (.bin (.add .i64) (.sel 0 (.var 5) (.var 7)) (.var 1))) (.cons (.bin (.add .i64) (.var 4) (.var 1)) (.cons (.bin .max (.bin (.add .i64) (.var 4) (.var 1)) (.bin (.add .i64) (.bin (.add .i64) (.var 4) (.var 1)) (.sel 1 (.var 5) (.var 7)))) (.cons (.bin (.add .i64) (.var 7) (.n 1)) (.cons (.bin .cat (.var 8) (.lcons (.cons (.n 0) (.cons (.bin (.add .i64) (.var 4) (.var 1)) (.cons (.bin (.add .i64) (.n 0) (.sel 0 (.var 5) (.var 7))) (.cons (.bin (.add .i64) (.bin (.add .i64) (.var 4) (.var 1)) (.sel 1 (.var 5) (.var 7))) .nil)))) .lnil)) .nil))))))))
    (.need (.t true) (.c (.bin .le (.un .len (.bin .cat (.var 8) (.lcons (.cons (.var 2) (.cons (.var 3) (.cons (.bin (.add .i64) (.var 2) (.sel 0 (.var 5) (.var 7))) (.cons (.bin (.add .i64) (.var 3) (.sel 1 (.var 5) (.var 7))) .nil)))) .lnil))) (.n 4398046511104)))
    (.ret (.cons (.n (-1)) (.cons (.bin (.add .i64) (.var 2) (.bin (.add .i64) (.sel 0 (.var 5) (.var 7)) (.var 1))) (.cons (.var 3) (.cons (.bin .max (.var 4) (.bin (.add .i64) (.var 3) (.sel 1 (.var 5) (.var 7)))) (.cons (.bin (.add .i64) (.var 7) (.n 1)) (.cons (.bin .cat (.var 8) (.lcons (.cons (.var 2) (.cons (.var 3) (.cons (.bin (.add .i64) (.var 2) (.sel 0 (.var 5) (.var 7))) (.cons (.bin (.add .i64) (.var 3) (.sel 1 (.var 5) (.var 7))) .nil)))) .lnil)) .nil)))))))))))
   (.ret (.cons (.n 0) (.cons (.var 2) (.cons (.var 3) (.cons (.var 4) (.cons (.var 7) (.cons (.var 8) .nil))))))))
theorem le100_0 : (loopVT Try.prog (sgOf sg100) (ltOf lt100) L100_0 lb100_0).slim L100_0.nv [] = rt100_0 := by kernel_rfl
theorem lf100_0 : (firstRegion lb100_0).bind (ltOf lt100) = some L100_0 := by kernel_rfl
theorem lk100_0 : (Code.loops lb100_0).length = 0 := by kernel_rfl
def vt100 : VT :=
  (.need (.t true) (.pre 20000 (.cons (.var 1) (.cons (.var 2) (.cons (.n 0) (.cons (.n 0) (.cons (.n 0) (.cons (.var 0) (.cons (.un .len (.var 0)) (.cons (.n 0) (.cons .lnil .nil))))))))))
  (.lt (.app 20000 (.cons (.var 1) (.cons (.var 2) (.cons (.n 0) (.cons (.n 0) (.cons (.n 0) (.cons (.var 0) (.cons (.un .len (.var 0)) (.cons (.n 0) (.cons .lnil .nil))))))))) 0) 6
  (.ret (.cons (.var 8) .nil))))
theorem e100 : (fnVT Try.prog (sgOf sg100) (ltOf lt100) S100 Try.f100 c100).slim (S100.ps.map fun p => p.2.length).sum [] = vt100 := by kernel_rfl
def S101 : Sig := ⟨[(false, [(.sl 40 [i6, i6, i6, i6])])], [(false, [i6])], [], none⟩
noncomputable def c101 : Code := Try.f101.body.getD .skip
theorem b101 : Try.f101.body = some c101 := body_some (by kernel_rfl)
theorem n101 : (Try.f101.name == "runtime.NumGoroutine") = false := by kernel_rfl
def sg101 : List (FuncId × Sig) := []
def L101_0 : LoopSig := ⟨20100, [],
   ⟨[.any, .any, .any, (.c (.x i6 (.var 0))), .any, .any, (.c (.x (.sl 40 [i6, i6, i6, i6]) (.var 1))), (.c (.x i6 (.var 2))), (.c (.x i6 (.var 3))), .any, .any, .any, .any, .any, .any, .any, .any, .any, .any, .any],
    []⟩,
   4, [0, 3], [9, 10, 11, 5, 12, 13, 14, 15, 16, 17, 3, 18, 8], [(.exit 0)], []⟩
def lt101 : List (Nat × LoopSig) := [(3, L101_0)]
theorem k101 : (Code.loops c101).length = 1 := by kernel_rfl
noncomputable def lb101_0 : Code := (Code.loops c101).getD 0 .skip
def rt101_0 : VT :=
  (.ite (.bin .lt (.var 3) (.var 2))
   (.need (.t true) (.c (.bin .le (.n 0) (.var 3)))
   (.need (.t true) (.c (.bin .lt (.var 3) (.un .len (.var 1))))
   (.ret (.cons (.n (-1)) (.cons (.bin .max (.bin .max (.var 0) (.sel 2 (.var 1) (.var 3))) (.sel 3 (.var 1) (.var 3))) (.cons (.bin (.add .i64) (.var 3) (.n 1)) .nil))))))
   (.ret (.cons (.n 0) (.cons (.var 0) (.cons (.var 3) .nil)))))
theorem le101_0 : (loopVT Try.prog (sgOf sg101) (ltOf lt101) L101_0 lb101_0).slim L101_0.nv [] = rt101_0 := by kernel_rfl
theorem lf101_0 : (firstRegion lb101_0).bind (ltOf lt101) = some L101_0 := by kernel_rfl
theorem lk101_0 : (Code.loops lb101_0).length = 0 := by kernel_rfl
def vt101 : VT :=
  (.need (.t true) (.pre 20100 (.cons (.n 0) (.cons (.var 0) (.cons (.un .len (.var 0)) (.cons (.n 0) .nil)))))
  (.lt (.app 20100 (.cons (.n 0) (.cons (.var 0) (.cons (.un .len (.var 0)) (.cons (.n 0) .nil)))) 0) 3
  (.ret (.cons (.var 2) .nil))))
theorem e101 : (fnVT Try.prog (sgOf sg101) (ltOf lt101) S101 Try.f101 c101).slim (S101.ps.map fun p => p.2.length).sum [] = vt101 := by kernel_rfl
def S78 : Sig := ⟨[(false, [(.sl 75 [i6, i6])]), (false, [i6])], [(false, [(.sl 40 [i6, i6, i6, i6])]), (false, [i6])], [], none⟩
noncomputable def c78 : Code := Try.f78.body.getD .skip
theorem b78 : Try.f78.body = some c78 := body_some (by kernel_rfl)
theorem n78 : (Try.f78.name == "runtime.NumGoroutine") = false := by kernel_rfl
def sg78 : List (FuncId × Sig) := [(99, S99), (100, S100), (101, S101)]
def L78_0 : LoopSig := ⟨17800, [],
   ⟨[(.c (.x (.sl 75 [i6, i6]) (.var 0))), (.c (.x i6 (.var 1))), .any, .any, .any, .any, .any, (.c (.x (.sl 40 [i6, i6, i6, i6]) (.var 2))), (.c (.x i6 (.var 3))), .any, .any, .any, .any, .any, .any, .any, .any, .any, .any, .any, (.c (.x (.sl 75 [i6, i6]) (.var 4))), (.c (.x i6 (.var 5))), (.c (.x i6 (.var 6))), .any, .any, .any, .any, .any, .any, .any, .any, .any, .any, .any, .any, .any, .any, .any, .any, .any, .any, .any, .any, .any, .any, .any, .any, .any, .any],
    []⟩,
   7, [2, 3, 6], [23, 24, 25, 26, 10, 9, 27, 28, 29, 30, 31, 32, 8, 33, 34, 35, 36, 11, 37, 38, 39, 40, 41, 42, 43, 44, 45, 46, 7, 47, 22], [(.exit 0)], []⟩
def lt78 : List (Nat × LoopSig) := [(7, L78_0)]
theorem k78 : (Code.loops c78).length = 1 := by kernel_rfl
noncomputable def lb78_0 : Code := (Code.loops c78).getD 0 .skip
def rt78_0 : VT :=
  (.ite (.bin .lt (.var 6) (.var 5))
   (.need (.t true) (.c (.bin .le (.n 0) (.var 6)))
   (.need (.t true) (.c (.bin .lt (.var 6) (.un .len (.var 4))))
   (.need (.t true) (.pre 100 (.cons (.var 0) (.cons (.bin (.add .i64) (.var 3) (.bin (.add .i64) (.var 1) (.sel 0 (.var 4) (.var 6)))) (.cons (.var 1) .nil))))
   (.lt (.app 100 (.cons (.var 0) (.cons (.bin (.add .i64) (.var 3) (.bin (.add .i64) (.var 1) (.sel 0 (.var 4) (.var 6)))) (.cons (.var 1) .nil))) 0) 1
   (.need (.un .not (.bin .eq (.var 6) (.n 0))) (.pre 101 (.cons (.var 7) .nil))
   (.lt (.app 101 (.cons (.var 7) .nil) 0) 1
   (.need (.un .not (.bin .eq (.var 6) (.n 0))) (.pre 101 (.cons (.var 2) .nil))
   (.lt (.app 101 (.cons (.var 2) .nil) 0) 1
   (.ite (.ite (.bin .eq (.var 6) (.n 0)) (.t true) (.bin .lt (.var 8) (.var 9)))
    (.ret (.cons (.n (-1)) (.cons (.var 7) (.cons (.bin (.add .i64) (.var 3) (.bin (.add .i64) (.var 1) (.sel 0 (.var 4) (.var 6)))) (.cons (.bin (.add .i64) (.var 6) (.n 1)) .nil)))))
    (.ret (.cons (.n (-1)) (.cons (.var 2) (.cons (.bin (.add .i64) (.var 3) (.bin (.add .i64) (.var 1) (.sel 0 (.var 4) (.var 6)))) (.cons (.bin (.add .i64) (.var 6) (.n 1)) .nil))))))))))))))
   (.ret (.cons (.n 0) (.cons (.var 2) (.cons (.var 3) (.cons (.var 6) .nil))))))
theorem le78_0 : (loopVT Try.prog (sgOf sg78) (ltOf lt78) L78_0 lb78_0).slim L78_0.nv [] = rt78_0 := by kernel_rfl
theorem lf78_0 : (firstRegion lb78_0).bind (ltOf lt78) = some L78_0 := by kernel_rfl
theorem lk78_0 : (Code.loops lb78_0).length = 0 := by kernel_rfl
def vt78 : VT :=
  (.need (.t true) (.pre 99 (.cons (.var 0) (.cons (.n 0) (.cons (.var 1) .nil))))
  (.lt (.app 99 (.cons (.var 0) (.cons (.n 0) (.cons (.var 1) .nil))) 0) 1
  (.ite (.un .not (.bin .eq (.var 2) (.n 0)))
   (.ret (.cons .lnil (.cons (.var 2) .nil)))
   (.need (.t true) (.pre 17800 (.cons (.var 0) (.cons (.var 1) (.cons .lnil (.cons (.un (.neg .i64) (.var 1)) (.cons (.var 0) (.cons (.un .len (.var 0)) (.cons (.n 0) .nil))))))))
   (.lt (.app 17800 (.cons (.var 0) (.cons (.var 1) (.cons .lnil (.cons (.un (.neg .i64) (.var 1)) (.cons (.var 0) (.cons (.un .len (.var 0)) (.cons (.n 0) .nil))))))) 0) 4
   (.ret (.cons (.var 4) (.cons (.n 0) .nil))))))))
theorem e78 : (fnVT Try.prog (sgOf sg78) (ltOf lt78) S78 Try.f78 c78).slim (S78.ps.map fun p => p.2.length).sum [] = vt78 := by kernel_rfl
def S49 : Sig := ⟨[(false, [(.pn [.str, .bool, (.sl 38 [.str, .str, i6, i6, i6, (.sl 53 [.str, i6])]), (.sl 55 [i6, i6, i6, i6, .str, i6, i6]), (.sl 50 [.str, i6]), i6, i6, i6, i6, i6, (.sl 40 [i6, i6, i6, i6]), (.sl 59 [(.sl 61 [i6, i6, i6, i6, i6])]), (.sl 75 [i6, i6])])]), (false, [i6])], [(false, [(.osl 61 [i6, i6, i6, i6, i6])]), (true, [i6, i6]), (false, [i6])], [], none⟩
noncomputable def c49 : Code := Try.f49.body.getD .skip
theorem b49 : Try.f49.body = some c49 := body_some (by kernel_rfl)
theorem n49 : (Try.f49.name == "runtime.NumGoroutine") = false := by kernel_rfl
def sg49 : List (FuncId × Sig) := [(22, S22), (23, S23), (29, S29), (78, S78), (50, S50)]
def L49_0 : LoopSig := ⟨14900, [(7, none, 61), (8, none, 75)],
   ⟨[(.c (.x (.pn [.str, .bool, (.sl 38 [.str, .str, i6, i6, i6, (.sl 53 [.str, i6])]), (.sl 55 [i6, i6, i6, i6, .str, i6, i6]), (.sl 50 [.str, i6]), i6, i6, i6, i6, i6, (.sl 40 [i6, i6, i6, i6]), (.sl 59 [(.sl 61 [i6, i6, i6, i6, i6])]), (.sl 75 [i6, i6])]) (.var 0))), (.c (.x i6 (.var 1))), .any, .any, .any, .any, .any, (.c (.row 2 1)), (.c (.row 4 1)), .any, .any, .any, .any, .any, .any, .any, .any, .any, .any, .any, .any, .any, .any, .any, .any, .any, .any, .any, .any, .any, .any, .any, .any, .any, .any, .any, (.c (.x (.sl 50 [.str, i6]) (.var 2))), (.c (.x i6 (.var 3))), (.c (.x i6 (.var 4))), .any, .any, .any, .any, .any, .any, .any, .any, .any, .any, .any, .any, .any, .any, .any, .any, .any, .any, .any, .any, .any, .any, .any, .any, .any, .any, .any, .any, .any, .any, .any, .any, .any, .any, .any, .any, .any, .any, .any, .any, .any, .any, .any, .any, .any, .any, .any, .any, .any, .any, .any, .any, .any, .any, .any],
    [none, none, some ⟨(.t true), (.row 61 [i6, i6, i6, i6, i6] (.var 5) 1 false)⟩, none, some ⟨(.t true), (.row 75 [i6, i6] (.var 6) 1 false)⟩]⟩,
   7, [4, 5, 6], [39, 40, 41, 42, 11, 10, 43, 44, 45, 46, 47, 48, 49, 50, 51, 7, 52, 53, 54, 55, 56, 57, 58, 59, 60, 61, 8, 62, 38], [(.exit 0)], [5, 6]⟩
def L49_1 : LoopSig := ⟨14901, [],
   ⟨[.any, .any, .any, .any, .any, .any, .any, (.c (.row 2 1)), .any, .any, .any, .any, (.c (.x (.sl 40 [i6, i6, i6, i6]) (.var 0))), .any, .any, .any, .any, .any, .any, .any, .any, .any, .any, .any, .any, .any, .any, .any, .any, .any, .any, .any, .any, .any, .any, .any, .any, .any, .any, .any, .any, .any, .any, .any, .any, .any, .any, .any, .any, .any, .any, .any, .any, .any, .any, .any, .any, .any, .any, .any, .any, .any, .any, .any, .any, .any, .any, .any, .any, .any, .any, .any, .any, .any, .any, .any, .any, (.c (.x i6 (.var 1))), (.c (.x i6 (.var 2))), .any, .any, .any, .any, .any, .any, .any, .any, .any, .any, .any, .any, .any, .any, .any],
    [none, none, some ⟨(.t true), (.row 61 [i6, i6, i6, i6, i6] (.var 3) 1 false)⟩]⟩,
   4, [2, 3], [79, 80, 14, 81, 82, 83, 84, 85, 86, 87, 88, 89, 78], [(.exit 2)], []⟩
def lt49 : List (Nat × LoopSig) := [(8, L49_0), (18, L49_1)]
theorem k49 : (Code.loops c49).length = 2 := by kernel_rfl
noncomputable def lb49_0 : Code := (Code.loops c49).getD 0 .skip
noncomputable def lb49_1 : Code := (Code.loops c49).getD 1 .skip
def rt49_0 : VT :=
  (.ite (.bin .lt (.var 4) (.var 3))
   (.need (.t true) (.c (.bin .le (.n 0) (.var 4)))
   (.need (.t true) (.c (.bin .lt (.var 4) (.un .len (.var 2))))
   (.ite (.bin .eq (.sel 1 (.var 2) (.var 4)) (.var 1))
    (.need (.t true) (.c (.bin .le (.un .len (.bin .cat (.var 5) (.lcons (.cons (.var 4) (.cons (.n 0) (.cons (.n 0) (.cons (.n 0) (.cons (.n 0) .nil))))) .lnil))) (.n 3518437208883)))
    (.need (.t true) (.c (.un (.pnn 13) (.var 0)))
    (.need (.t true) (.c (.bin .lt (.var 4) (.un .len (.psel 12 (.var 0)))))
    (.need (.t true) (.c (.bin .le (.un .len (.bin .cat (.var 6) (.lcons (.cons (.sel 0 (.psel 12 (.var 0)) (.var 4)) (.cons (.sel 1 (.psel 12 (.var 0)) (.var 4)) .nil)) .lnil))) (.n 8796093022208)))
    (.ret (.cons (.n (-1)) (.cons (.bin (.add .i64) (.var 4) (.n 1)) (.cons (.bin .cat (.var 5) (.lcons (.cons (.var 4) (.cons (.n 0) (.cons (.n 0) (.cons (.n 0) (.cons (.n 0) .nil))))) .lnil)) (.cons (.bin .cat (.var 6) (.lcons (.cons (.sel 0 (.psel 12 (.var 0)) (.var 4)) (.cons (.sel 1 (.psel 12 (.var 0)) (.var 4)) .nil)) .lnil)) .nil)))))))))
    (.ret (.cons (.n (-1)) (.cons (.bin (.add .i64) (.var 4) (.n 1)) (.cons (.var 5) (.cons (.var 6) .nil))))))))
   (.ret (.cons (.n 0) (.cons (.var 4) (.cons (.var 5) (.cons (.var 6) .nil))))))
theorem le49_0 : (loopVT Try.prog (sgOf sg49) (ltOf lt49) L49_0 lb49_0).slim L49_0.nv [] = rt49_0 := by kernel_rfl
theorem lf49_0 : (firstRegion lb49_0).bind (ltOf lt49) = some L49_0 := by kernel_rfl
theorem lk49_0 : (Code.loops lb49_0).length = 0 := by kernel_rfl
def rt49_1 : VT :=
  (.ite (.bin .lt (.var 2) (.var 1))
   (.need (.t true) (.c (.bin .le (.n 0) (.var 2)))
   (.need (.t true) (.c (.bin .lt (.var 2) (.un .len (.var 0))))
   (.need (.t true) (.c (.bin .lt (.var 2) (.un .len (.var 3))))
   (.ret (.cons (.n (-1)) (.cons (.bin (.add .i64) (.var 2) (.n 1)) (.cons (.upd 1 (.var 3) (.var 2) (.cons (.sel 0 (.var 0) (.var 2)) (.cons (.sel 1 (.var 0) (.var 2)) (.cons (.sel 2 (.var 0) (.var 2)) (.cons (.sel 3 (.var 0) (.var 2)) .nil))))) .nil)))))))
   (.ret (.cons (.n 0) (.cons (.var 2) (.cons (.var 3) .nil)))))
theorem le49_1 : (loopVT Try.prog (sgOf sg49) (ltOf lt49) L49_1 lb49_1).slim L49_1.nv [] = rt49_1 := by kernel_rfl
theorem lf49_1 : (firstRegion lb49_1).bind (ltOf lt49) = some L49_1 := by kernel_rfl
theorem lk49_1 : (Code.loops lb49_1).length = 0 := by kernel_rfl
def vt49 : VT :=
  (.need (.t true) (.pre 22 (.cons (.var 0) (.cons (.var 1) .nil)))
  (.lt (.app 22 (.cons (.var 0) (.cons (.var 1) .nil)) 0) 1
  (.ite (.bin .lt (.n 0) (.un .len (.var 2)))
   (.need (.t true) (.c (.bin .le (.un .len (.lcons (.cons (.n (-1)) (.cons (.n 0) (.cons (.n 0) (.cons (.n 0) (.cons (.n 0) .nil))))) .lnil)) (.n 3518437208883)))
   (.need (.t true) (.pre 23 (.cons (.var 0) (.cons (.var 2) .nil)))
   (.lt (.app 23 (.cons (.var 0) (.cons (.var 2) .nil)) 0) 4
   (.need (.t true) (.pre 29 (.cons (.var 3) (.cons (.var 4) (.cons (.var 5) (.cons (.var 6) .nil)))))
   (.lt (.app 29 (.cons (.var 3) (.cons (.var 4) (.cons (.var 5) (.cons (.var 6) .nil)))) 0) 2
   (.need (.t true) (.c (.bin .le (.un .len (.lcons (.cons (.var 7) (.cons (.var 8) .nil)) .lnil)) (.n 8796093022208)))
   (.need (.t true) (.c (.un (.pnn 13) (.var 0)))
   (.need (.t true) (.pre 14900 (.cons (.var 0) (.cons (.var 1) (.cons (.psel 4 (.var 0)) (.cons (.un .len (.psel 4 (.var 0))) (.cons (.n 0) (.cons (.bin .cat .lnil (.lcons (.cons (.n (-1)) (.cons (.n 0) (.cons (.n 0) (.cons (.n 0) (.cons (.n 0) .nil))))) .lnil)) (.cons (.bin .cat .lnil (.lcons (.cons (.var 7) (.cons (.var 8) .nil)) .lnil)) .nil))))))))
   (.lt (.app 14900 (.cons (.var 0) (.cons (.var 1) (.cons (.psel 4 (.var 0)) (.cons (.un .len (.psel 4 (.var 0))) (.cons (.n 0) (.cons (.bin .cat .lnil (.lcons (.cons (.n (-1)) (.cons (.n 0) (.cons (.n 0) (.cons (.n 0) (.cons (.n 0) .nil))))) .lnil)) (.cons (.bin .cat .lnil (.lcons (.cons (.var 7) (.cons (.var 8) .nil)) .lnil)) .nil))))))) 0) 4
   (.need (.t true) (.pre 78 (.cons (.var 12) (.cons (.psel 6 (.var 0)) .nil)))
   (.lt (.app 78 (.cons (.var 12) (.cons (.psel 6 (.var 0)) .nil)) 0) 2
   (.ite (.un .not (.bin .eq (.var 14) (.n 0)))
    (.ret (.cons .lnil (.cons (.n 0) (.cons (.n 0) (.cons (.n 2) .nil)))))
    (.need (.t true) (.pre 14901 (.cons (.var 13) (.cons (.un .len (.var 11)) (.cons (.n 0) (.cons (.var 11) .nil)))))
    (.lt (.app 14901 (.cons (.var 13) (.cons (.un .len (.var 11)) (.cons (.n 0) (.cons (.var 11) .nil)))) 0) 3
    (.need (.t true) (.pre 50 (.cons (.var 13) .nil))
    (.lt (.app 50 (.cons (.var 13) .nil) 0) 4
    (.need (.t true) (.pre 29 (.cons (.var 18) (.cons (.var 19) (.cons (.var 20) (.cons (.var 21) .nil)))))
    (.lt (.app 29 (.cons (.var 18) (.cons (.var 19) (.cons (.var 20) (.cons (.var 21) .nil)))) 0) 2
    (.ret (.cons (.var 17) (.cons (.var 22) (.cons (.var 23) (.cons (.n 0) .nil)))))))))))))))))))))))
   (.need (.t true) (.c (.un (.pnn 13) (.var 0)))
   (.need (.t true) (.pre 14900 (.cons (.var 0) (.cons (.var 1) (.cons (.psel 4 (.var 0)) (.cons (.un .len (.psel 4 (.var 0))) (.cons (.n 0) (.cons .lnil (.cons .lnil .nil))))))))
   (.lt (.app 14900 (.cons (.var 0) (.cons (.var 1) (.cons (.psel 4 (.var 0)) (.cons (.un .len (.psel 4 (.var 0))) (.cons (.n 0) (.cons .lnil (.cons .lnil .nil))))))) 0) 4
   (.need (.t true) (.pre 78 (.cons (.var 6) (.cons (.psel 6 (.var 0)) .nil)))
   (.lt (.app 78 (.cons (.var 6) (.cons (.psel 6 (.var 0)) .nil)) 0) 2
   (.ite (.un .not (.bin .eq (.var 8) (.n 0)))
    (.ret (.cons .lnil (.cons (.n 0) (.cons (.n 0) (.cons (.n 2) .nil)))))
    (.need (.t true) (.pre 14901 (.cons (.var 7) (.cons (.un .len (.var 5)) (.cons (.n 0) (.cons (.var 5) .nil)))))
    (.lt (.app 14901 (.cons (.var 7) (.cons (.un .len (.var 5)) (.cons (.n 0) (.cons (.var 5) .nil)))) 0) 3
    (.need (.t true) (.pre 50 (.cons (.var 7) .nil))
    (.lt (.app 50 (.cons (.var 7) .nil) 0) 4
    (.need (.t true) (.pre 29 (.cons (.var 12) (.cons (.var 13) (.cons (.var 14) (.cons (.var 15) .nil)))))
    (.lt (.app 29 (.cons (.var 12) (.cons (.var 13) (.cons (.var 14) (.cons (.var 15) .nil)))) 0) 2
    (.ret (.cons (.var 11) (.cons (.var 16) (.cons (.var 17) (.cons (.n 0) .nil))))))))))))))))))))
theorem e49 : (fnVT Try.prog (sgOf sg49) (ltOf lt49) S49 Try.f49 c49).slim (S49.ps.map fun p => p.2.length).sum [] = vt49 := by kernel_rfl
def S19 : Sig := ⟨[(true, [.str, .bool, (.sl 38 [.str, .str, i6, i6, i6, (.sl 53 [.str, i6])]), (.sl 55 [i6, i6, i6, i6, .str, i6, i6]), (.sl 50 [.str, i6])]), (true, [i6, i6, i6, i6, i6]), (false, [(.sl 40 [i6, i6, i6, i6])])], [(false, [(.pn [.str, .bool, (.sl 38 [.str, .str, i6, i6, i6, (.sl 53 [.str, i6])]), (.sl 55 [i6, i6, i6, i6, .str, i6, i6]), (.sl 50 [.str, i6]), i6, i6, i6, i6, i6, (.sl 40 [i6, i6, i6, i6]), (.sl 59 [(.sl 61 [i6, i6, i6, i6, i6])]), (.sl 75 [i6, i6])])]), (false, [i6])], [], none⟩
noncomputable def c19 : Code := Try.f19.body.getD .skip
theorem b19 : Try.f19.body = some c19 := body_some (by kernel_rfl)
theorem n19 : (Try.f19.name == "runtime.NumGoroutine") = false := by kernel_rfl
def sg19 : List (FuncId × Sig) := [(48, S48), (49, S49), (17, S17)]
def L19_0 : LoopSig := ⟨11900, [],
   ⟨[.any, .any, .any, .any, (.c (.ptr 1 0)), .any, (.c (.x (.pn [.str, .bool, (.sl 38 [.str, .str, i6, i6, i6, (.sl 53 [.str, i6])]), (.sl 55 [i6, i6, i6, i6, .str, i6, i6]), (.sl 50 [.str, i6]), i6, i6, i6, i6, i6, (.sl 40 [i6, i6, i6, i6]), (.sl 59 [(.sl 61 [i6, i6, i6, i6, i6])]), (.sl 75 [i6, i6])]) (.var 0))), (.c (.x i6 (.var 1))), .any, (.c (.x i6 (.var 2))), (.c (.ptr 4 0)), (.c (.x i6 (.var 3))), .any, .any, .any, .any, .any, .any, .any, .any, .any, .any, .any, .any, .any, .any, .any, .any, .any, .any, .any, .any, .any, .any, .any, .any, .any, .any, .any, .any, .any, .any, .any, .any, .any, .any, .any, .any, .any, .any, .any, .any, .any, .any, .any, .any, .any, .any, .any, .any, .any, .any, .any, .any, .any, .any, .any, .any, .any, .any, .any, .any, .any, .any, .any, .any, .any, .any, .any, .any, .any, .any, .any, .any, .any, .any, .any, .any, .any, .any, .any, .any, .any, .any, .any, .any, .any, .any, .any, .any, .any, .any, .any, .any, .any, .any],
    [none, some ⟨(.t true), (.box 28 [(.x i6 (.var 4)), (.x i6 (.var 5)), (.x i6 (.var 6)), (.x i6 (.var 7)), (.x i6 (.var 8))] false)⟩, some ⟨(.t true), (.row 59 [(.sl 61 [i6, i6, i6, i6, i6])] (.var 9) 1 false)⟩, some ⟨(.t true), (.row 75 [i6, i6] (.var 10) 1 false)⟩, some ⟨(.t true), (.box 70 [(.x .str (.var 11)), (.x .bool (.var 12)), (.x (.sl 38 [.str, .str, i6, i6, i6, (.sl 53 [.str, i6])]) (.var 13)), (.x (.sl 55 [i6, i6, i6, i6, .str, i6, i6]) (.var 14)), (.x (.sl 50 [.str, i6]) (.var 15)), (.x i6 (.var 16)), (.x i6 (.var 17)), (.x i6 (.var 18)), (.x i6 (.var 19)), (.x i6 (.var 20)), (.x (.sl 40 [i6, i6, i6, i6]) (.var 21)), (.row 2 1), (.row 3 1)] false)⟩]⟩,
   22, [0, 1, 3, 9, 10], [37, 38, 42, 43, 44, 41, 45, 46, 47, 13, 12, 14, 48, 49, 50, 6, 7, 51, 52, 53, 54, 55, 56, 57, 58, 59, 60, 61, 62, 63, 64, 65, 66, 67, 68, 69, 70, 71, 72, 73, 74, 75, 76, 77, 78, 79, 80, 81, 82, 83, 84, 85, 86, 87, 88, 89, 90, 91, 92, 93, 94, 95, 96, 97, 98, 99, 100, 101, 102, 103, 104, 39, 40, 11], [.ret, (.exit 0)], []⟩
def lt19 : List (Nat × LoopSig) := [(7, L19_0)]
theorem k19 : (Code.loops c19).length = 1 := by kernel_rfl
noncomputable def lb19_0 : Code := (Code.loops c19).getD 0 .skip
def rt19_0 : VT :=
  (.ite (.bin .le (.n (-1)) (.var 3))
   (.need (.t true) (.pre 49 (.cons (.pk (.cons (.var 11) (.cons (.var 12) (.cons (.var 13) (.cons (.var 14) (.cons (.var 15) (.cons (.var 16) (.cons (.var 17) (.cons (.var 18) (.cons (.var 19) (.cons (.var 20) (.cons (.var 21) (.cons (.var 9) (.cons (.var 10) .nil)))))))))))))) (.cons (.var 3) .nil)))
   (.lt (.app 49 (.cons (.pk (.cons (.var 11) (.cons (.var 12) (.cons (.var 13) (.cons (.var 14) (.cons (.var 15) (.cons (.var 16) (.cons (.var 17) (.cons (.var 18) (.cons (.var 19) (.cons (.var 20) (.cons (.var 21) (.cons (.var 9) (.cons (.var 10) .nil)))))))))))))) (.cons (.var 3) .nil)) 0) 4
   (.ite (.un .not (.bin .eq (.var 25) (.n 0)))
    (.ret (.cons (.n 0) (.cons (.pk .nil) (.cons (.var 25) (.cons (.var 3) (.cons (.var 9) (.cons (.var 10) .nil)))))))
    (.ite (.bin .lt (.var 3) (.n 0))
     (.need (.t true) (.c (.bin .le (.n 0) (.var 2)))
     (.need (.t true) (.c (.bin .lt (.var 2) (.un .len (.var 9))))
     (.ret (.cons (.n (-1)) (.cons (.var 0) (.cons (.var 1) (.cons (.bin (.sub .i64) (.var 3) (.n 1)) (.cons (.upd 0 (.var 9) (.var 2) (.cons (.var 22) .nil)) (.cons (.var 10) .nil)))))))))
     (.need (.t true) (.c (.bin .le (.n 0) (.var 3)))
     (.need (.t true) (.c (.bin .lt (.var 3) (.un .len (.var 9))))
     (.need (.t true) (.c (.bin .lt (.var 3) (.un .len (.var 10))))
     (.need (.t true) (.c (.bin .lt (.var 3) (.un .len (.upd 0 (.var 10) (.var 3) (.cons (.bin (.add .i64) (.var 23) (.bin (.mul .i64) (.n 2) (.var 7))) (.cons (.bin (.add .i64) (.var 24) (.bin (.mul .i64) (.n 2) (.var 7))) .nil))))))
     (.need (.t true) (.pre 17 (.cons (.n 0) (.cons (.n 0) (.cons (.sel 0 (.upd 0 (.var 10) (.var 3) (.cons (.bin (.add .i64) (.var 23) (.bin (.mul .i64) (.n 2) (.var 7))) (.cons (.bin (.add .i64) (.var 24) (.bin (.mul .i64) (.n 2) (.var 7))) .nil))) (.var 3)) (.cons (.sel 1 (.upd 0 (.var 10) (.var 3) (.cons (.bin (.add .i64) (.var 23) (.bin (.mul .i64) (.n 2) (.var 7))) (.cons (.bin (.add .i64) (.var 24) (.bin (.mul .i64) (.n 2) (.var 7))) .nil))) (.var 3)) .nil)))))
     (.lt (.app 17 (.cons (.n 0) (.cons (.n 0) (.cons (.sel 0 (.upd 0 (.var 10) (.var 3) (.cons (.bin (.add .i64) (.var 23) (.bin (.mul .i64) (.n 2) (.var 7))) (.cons (.bin (.add .i64) (.var 24) (.bin (.mul .i64) (.n 2) (.var 7))) .nil))) (.var 3)) (.cons (.sel 1 (.upd 0 (.var 10) (.var 3) (.cons (.bin (.add .i64) (.var 23) (.bin (.mul .i64) (.n 2) (.var 7))) (.cons (.bin (.add .i64) (.var 24) (.bin (.mul .i64) (.n 2) (.var 7))) .nil))) (.var 3)) .nil)))) 0) 1
     (.ite (.un .not (.var 26))
      (.ret (.cons (.n 0) (.cons (.pk .nil) (.cons (.n 2) (.cons (.var 3) (.cons (.upd 0 (.var 9) (.var 3) (.cons (.var 22) .nil)) (.cons (.upd 0 (.var 10) (.var 3) (.cons (.bin (.add .i64) (.var 23) (.bin (.mul .i64) (.n 2) (.var 7))) (.cons (.bin (.add .i64) (.var 24) (.bin (.mul .i64) (.n 2) (.var 7))) .nil))) .nil)))))))
      (.ret (.cons (.n (-1)) (.cons (.var 0) (.cons (.var 1) (.cons (.bin (.sub .i64) (.var 3) (.n 1)) (.cons (.upd 0 (.var 9) (.var 3) (.cons (.var 22) .nil)) (.cons (.upd 0 (.var 10) (.var 3) (.cons (.bin (.add .i64) (.var 23) (.bin (.mul .i64) (.n 2) (.var 7))) (.cons (.bin (.add .i64) (.var 24) (.bin (.mul .i64) (.n 2) (.var 7))) .nil))) .nil))))))))))))))))))
   (.ret (.cons (.n 1) (.cons (.var 0) (.cons (.var 1) (.cons (.var 3) (.cons (.var 9) (.cons (.var 10) .nil))))))))
theorem le19_0 : (loopVT Try.prog (sgOf sg19) (ltOf lt19) L19_0 lb19_0).slim L19_0.nv [] = rt19_0 := by kernel_rfl
theorem lf19_0 : (firstRegion lb19_0).bind (ltOf lt19) = some L19_0 := by kernel_rfl
theorem lk19_0 : (Code.loops lb19_0).length = 0 := by kernel_rfl
def vt19 : VT :=
  (.need (.t true) (.pre 48 (.cons (.var 0) (.cons (.var 1) (.cons (.var 2) (.cons (.var 3) (.cons (.var 4) (.cons (.var 5) (.cons (.var 6) (.cons (.var 7) (.cons (.var 8) (.cons (.var 9) (.cons (.var 10) .nil))))))))))))
  (.lt (.app 48 (.cons (.var 0) (.cons (.var 1) (.cons (.var 2) (.cons (.var 3) (.cons (.var 4) (.cons (.var 5) (.cons (.var 6) (.cons (.var 7) (.cons (.var 8) (.cons (.var 9) (.cons (.var 10) .nil))))))))))) 0) 1
  (.ite (.un .not (.bin .eq (.var 11) (.n 0)))
   (.ret (.cons (.pk .nil) (.cons (.var 11) .nil)))
   (.need (.t true) (.c (.bin .le (.n 0) (.bin (.add .i64) (.un .len (.var 4)) (.n 1))))
   (.need (.t true) (.c (.bin .le (.bin (.add .i64) (.un .len (.var 4)) (.n 1)) (.n 5864062014805)))
   (.need (.t true) (.c (.bin .le (.un .len (.var 4)) (.n 8796093022208)))
   (.need (.t true) (.pre 11900 (.cons (.pk .nil) (.cons (.n 0) (.cons (.un .len (.var 4)) (.cons (.bin (.sub .i64) (.un .len (.var 4)) (.n 1)) (.cons (.var 5) (.cons (.var 6) (.cons (.var 7) (.cons (.var 8) (.cons (.var 9) (.cons (.rep (.bin (.add .i64) (.un .len (.var 4)) (.n 1)) (.cons .lnil .nil)) (.cons (.rep (.un .len (.var 4)) (.cons (.n 0) (.cons (.n 0) .nil))) (.cons (.var 0) (.cons (.var 1) (.cons (.var 2) (.cons (.var 3) (.cons (.var 4) (.cons (.var 5) (.cons (.var 6) (.cons (.var 7) (.cons (.var 8) (.cons (.var 9) (.cons (.var 10) .nil)))))))))))))))))))))))
   (.lt (.app 11900 (.cons (.pk .nil) (.cons (.n 0) (.cons (.un .len (.var 4)) (.cons (.bin (.sub .i64) (.un .len (.var 4)) (.n 1)) (.cons (.var 5) (.cons (.var 6) (.cons (.var 7) (.cons (.var 8) (.cons (.var 9) (.cons (.rep (.bin (.add .i64) (.un .len (.var 4)) (.n 1)) (.cons .lnil .nil)) (.cons (.rep (.un .len (.var 4)) (.cons (.n 0) (.cons (.n 0) .nil))) (.cons (.var 0) (.cons (.var 1) (.cons (.var 2) (.cons (.var 3) (.cons (.var 4) (.cons (.var 5) (.cons (.var 6) (.cons (.var 7) (.cons (.var 8) (.cons (.var 9) (.cons (.var 10) .nil)))))))))))))))))))))) 0) 6
   (.ite (.bin .eq (.var 12) (.n 0))
    (.ret (.cons (.var 13) (.cons (.var 14) .nil)))
    (.ret (.cons (.pk (.cons (.var 0) (.cons (.var 1) (.cons (.var 2) (.cons (.var 3) (.cons (.var 4) (.cons (.var 5) (.cons (.var 6) (.cons (.var 7) (.cons (.var 8) (.cons (.var 9) (.cons (.var 10) (.cons (.var 16) (.cons (.var 17) .nil)))))))))))))) (.cons (.n 0) .nil))))))))))))
theorem e19 : (fnVT Try.prog (sgOf sg19) (ltOf lt19) S19 Try.f19 c19).slim (S19.ps.map fun p => p.2.length).sum [] = vt19 := by kernel_rfl
def S12 : Sig := ⟨[(true, [.str, .bool, (.sl 38 [.str, .str, i6, i6, i6, (.sl 53 [.str, i6])]), (.sl 55 [i6, i6, i6, i6, .str, i6, i6]), (.sl 50 [.str, i6])]), (true, [i6, i6, i6, i6, i6]), (false, [(.sl 40 [i6, i6, i6, i6])])], [(false, [(.sl 40 [i6, i6, i6, i6])]), (false, [i6])], [], none⟩
noncomputable def c12 : Code := Try.f12.body.getD .skip
theorem b12 : Try.f12.body = some c12 := body_some (by kernel_rfl)
theorem n12 : (Try.f12.name == "runtime.NumGoroutine") = false := by kernel_rfl
def sg12 : List (FuncId × Sig) := [(19, S19)]
def L12_0 : LoopSig := ⟨11200, [(10, none, 40)],
   ⟨[.any, .any, .any, .any, .any, .any, .any, .any, .any, .any, (.c (.row 2 1)), .any, .any, .any, .any, .any, .any, .any, .any, .any, .any, .any, .any, .any, .any, .any, (.c (.x (.sl 75 [i6, i6]) (.var 0))), (.c (.x i6 (.var 1))), (.c (.x i6 (.var 2))), .any, .any, .any, .any, .any, .any, .any, .any, .any, .any, .any, .any, .any],
    [none, none, some ⟨(.t true), (.row 40 [i6, i6, i6, i6] (.var 3) 1 false)⟩]⟩,
   4, [2, 3], [29, 30, 31, 12, 32, 33, 34, 35, 36, 37, 38, 39, 10, 40, 28], [(.exit 0)], [3]⟩
def lt12 : List (Nat × LoopSig) := [(6, L12_0)]
theorem k12 : (Code.loops c12).length = 1 := by kernel_rfl
noncomputable def lb12_0 : Code := (Code.loops c12).getD 0 .skip
def rt12_0 : VT :=
  (.ite (.bin .lt (.var 2) (.var 1))
   (.need (.t true) (.c (.bin .le (.n 0) (.var 2)))
   (.need (.t true) (.c (.bin .lt (.var 2) (.un .len (.var 0))))
   (.need (.t true) (.c (.bin .le (.un .len (.bin .cat (.var 3) (.lcons (.cons (.n 0) (.cons (.n 0) (.cons (.sel 0 (.var 0) (.var 2)) (.cons (.sel 1 (.var 0) (.var 2)) .nil)))) .lnil))) (.n 4398046511104)))
   (.ret (.cons (.n (-1)) (.cons (.bin (.add .i64) (.var 2) (.n 1)) (.cons (.bin .cat (.var 3) (.lcons (.cons (.n 0) (.cons (.n 0) (.cons (.sel 0 (.var 0) (.var 2)) (.cons (.sel 1 (.var 0) (.var 2)) .nil)))) .lnil)) .nil)))))))
   (.ret (.cons (.n 0) (.cons (.var 2) (.cons (.var 3) .nil)))))
theorem le12_0 : (loopVT Try.prog (sgOf sg12) (ltOf lt12) L12_0 lb12_0).slim L12_0.nv [] = rt12_0 := by kernel_rfl
theorem lf12_0 : (firstRegion lb12_0).bind (ltOf lt12) = some L12_0 := by kernel_rfl
theorem lk12_0 : (Code.loops lb12_0).length = 0 := by kernel_rfl
def vt12 : VT :=
  (.need (.t true) (.pre 19 (.cons (.var 0) (.cons (.var 1) (.cons (.var 2) (.cons (.var 3) (.cons (.var 4) (.cons (.var 5) (.cons (.var 6) (.cons (.var 7) (.cons (.var 8) (.cons (.var 9) (.cons (.var 10) .nil))))))))))))
  (.lt (.app 19 (.cons (.var 0) (.cons (.var 1) (.cons (.var 2) (.cons (.var 3) (.cons (.var 4) (.cons (.var 5) (.cons (.var 6) (.cons (.var 7) (.cons (.var 8) (.cons (.var 9) (.cons (.var 10) .nil))))))))))) 0) 2
  (.ite (.un .not (.bin .eq (.var 12) (.n 0)))
   (.ret (.cons .lnil (.cons (.var 12) .nil)))
   (.need (.t true) (.c (.un (.pnn 13) (.var 11)))
   (.need (.t true) (.pre 11200 (.cons (.psel 12 (.var 11)) (.cons (.un .len (.psel 12 (.var 11))) (.cons (.n 0) (.cons .lnil .nil)))))
   (.lt (.app 11200 (.cons (.psel 12 (.var 11)) (.cons (.un .len (.psel 12 (.var 11))) (.cons (.n 0) (.cons .lnil .nil)))) 0) 3
   (.ret (.cons (.var 15) (.cons (.n 0) .nil)))))))))
theorem e12 : (fnVT Try.prog (sgOf sg12) (ltOf lt12) S12 Try.f12 c12).slim (S12.ps.map fun p => p.2.length).sum [] = vt12 := by kernel_rfl
def S21 : Sig := ⟨[(true, [i6, i6, i6, i6]), (false, [i6]), (false, [i6])], [(true, [i6, i6, i6, i6])], [], none⟩
noncomputable def c21 : Code := Try.f21.body.getD .skip
theorem b21 : Try.f21.body = some c21 := body_some (by kernel_rfl)
theorem n21 : (Try.f21.name == "runtime.NumGoroutine") = false := by kernel_rfl
def sg21 : List (FuncId × Sig) := []
def lt21 : List (Nat × LoopSig) := []
theorem k21 : (Code.loops c21).length = 0 := by kernel_rfl
def vt21 : VT :=
  (.ret (.cons (.bin (.add .i64) (.var 0) (.var 4)) (.cons (.bin (.add .i64) (.var 1) (.var 5)) (.cons (.bin (.add .i64) (.var 2) (.var 4)) (.cons (.bin (.add .i64) (.var 3) (.var 5)) .nil)))))
theorem e21 : (fnVT Try.prog (sgOf sg21) (ltOf lt21) S21 Try.f21 c21).slim (S21.ps.map fun p => p.2.length).sum [] = vt21 := by kernel_rfl
def T21 : FuncId → List D → List D := tabOf []
def fn21 (ρ : List D) : List D := vt21.val T21 ρ
theorem m21 : Meets Try.prog 21 S21 (fun _ => True) fn21 := meets_easy (sgl := sg21) (Φ := T21) mixed ((fun _ h => nomatch h)) Try.func21 b21 n21 k21 e21 (by kernel_rfl)
def S24 : Sig := ⟨[(true, [i6, i6, i6, i6])], [(false, [.bool])], [], none⟩
noncomputable def c24 : Code := Try.f24.body.getD .skip
theorem b24 : Try.f24.body = some c24 := body_some (by kernel_rfl)
theorem n24 : (Try.f24.name == "runtime.NumGoroutine") = false := by kernel_rfl
def sg24 : List (FuncId × Sig) := [(17, S17)]
def lt24 : List (Nat × LoopSig) := []
theorem k24 : (Code.loops c24).length = 0 := by kernel_rfl
def vt24 : VT :=
  (.need (.t true) (.pre 17 (.cons (.var 0) (.cons (.var 1) (.cons (.var 2) (.cons (.var 3) .nil)))))
  (.lt (.app 17 (.cons (.var 0) (.cons (.var 1) (.cons (.var 2) (.cons (.var 3) .nil)))) 0) 1
  (.ret (.cons (.un .not (.var 4)) .nil))))
theorem e24 : (fnVT Try.prog (sgOf sg24) (ltOf lt24) S24 Try.f24 c24).slim (S24.ps.map fun p => p.2.length).sum [] = vt24 := by kernel_rfl
def T24 : FuncId → List D → List D := tabOf [(17, fn17)]
def fn24 (ρ : List D) : List D := vt24.val T24 ρ
theorem m24 : Meets Try.prog 24 S24 (fun _ => True) fn24 := meets_easy (sgl := sg24) (Φ := T24) mixed (List.forall_mem_cons.2 ⟨m17, (fun _ h => nomatch h)⟩) Try.func24 b24 n24 k24 e24 (by kernel_rfl)
def S10 : Sig := ⟨[(true, [.str, .bool, (.sl 38 [.str, .str, i6, i6, i6, (.sl 53 [.str, i6])]), (.sl 55 [i6, i6, i6, i6, .str, i6, i6]), (.sl 50 [.str, i6])]), (true, [i6, i6, i6, i6, i6]), (false, [(.sl 40 [i6, i6, i6, i6])])], [(false, [(.sl 40 [i6, i6, i6, i6])]), (false, [(.sl 40 [i6, i6, i6, i6])]), (false, [i6])], [], none⟩
noncomputable def c10 : Code := Try.f10.body.getD .skip
theorem b10 : Try.f10.body = some c10 := body_some (by kernel_rfl)
theorem n10 : (Try.f10.name == "runtime.NumGoroutine") = false := by kernel_rfl
def P10_0 : LoopSig := ⟨17020000, [],
   ⟨[(.c (.x i6 (.var 4))), (.c (.x (.sl 61 [i6, i6, i6, i6, i6]) (.var 5))), (.c (.x i6 (.var 6))), (.c (.x i6 (.var 7))), (.c (.ptr 7 0)), (.c (.ptr 3 0)), (.c (.ptr 2 0)), (.c (.ptr 6 0)), .any, .any, .any, .any, .any, .any, .any, .any, .any, .any, .any, .any, .any, .any, .any, .any, .any, .any, .any, .any, .any, .any, .any, .any, .any, .any, .any, .any, .any, .any, .any, .any, .any, .any, .any, .any, .any, .any, .any, .any, .any, .any, .any, .any, .any, .any, .any, .any, .any, .any, .any, .any, .any, .any, .any, .any, .any, .any, .any, .any, .any, .any],
    [none, none, some ⟨(.t true), (.box 29 [(.x (.sl 40 [i6, i6, i6, i6]) (.var 0))] false)⟩, some ⟨(.t true), (.box 56 [(.x (.pn [.str, .bool, (.sl 38 [.str, .str, i6, i6, i6, (.sl 53 [.str, i6])]), (.sl 55 [i6, i6, i6, i6, .str, i6, i6]), (.sl 50 [.str, i6]), i6, i6, i6, i6, i6, (.sl 40 [i6, i6, i6, i6]), (.sl 59 [(.sl 61 [i6, i6, i6, i6, i6])]), (.sl 75 [i6, i6])]) (.var 1))] false)⟩, some ⟨(.t true), (.row 40 [i6, i6, i6, i6] (.var 2) 1 false)⟩, some ⟨(.t true), (.row 40 [i6, i6, i6, i6] (.var 3) 1 false)⟩, some ⟨(.t true), (.box 29 [(.row 4 1)] false)⟩, some ⟨(.t true), (.box 29 [(.row 5 1)] false)⟩]⟩,
   8, [2, 3], [0, 1, 2, 3, 4, 5, 6, 7, 8, 9, 10, 11, 12, 13, 14, 15, 16, 17, 18, 19, 20, 21, 22, 23, 24, 25, 26, 27, 28, 29, 30, 31, 32, 33, 34, 35, 36, 37, 38, 39, 40, 41, 42, 43, 44, 45, 46, 47, 48, 49, 50, 51, 52, 53, 54, 55, 56, 57, 58, 59, 60, 61, 62, 63, 64, 65, 66, 67, 68, 69], [], []⟩
def Sp10_20 : Sig := ⟨[(false, []), (false, []), (false, []), (false, []), (false, []), (false, []), (false, []), (false, [])], [], [(P10_0, 4)], none⟩
def sg10 : List (FuncId × Sig) := [(19, S19), (25, S25), (20, Sp10_20), (17020000, ⟨[], [], [], some 3⟩)]
noncomputable def cp10_0 : Code := Try.f20.body.getD .skip
theorem bp10_0 : Try.f20.body = some cp10_0 := body_some (by kernel_rfl)
theorem np10_0 : (Try.f20.name == "runtime.NumGoroutine") = false := by kernel_rfl
def sgp10_0 : List (FuncId × Sig) := [(21, S21), (22, S22), (23, S23)]
def Lp10_0_0 : LoopSig := ⟨12051, [],
   ⟨[(.c (.x i6 (.var 0))), .any, (.c (.x i6 (.var 1))), (.c (.x i6 (.var 2))), (.c (.ptr 7 0)), (.c (.ptr 3 0)), (.c (.ptr 2 0)), (.c (.ptr 6 0)), .any, .any, .any, .any, .any, .any, .any, .any, .any, .any, .any, (.c (.x (.sl 61 [i6, i6, i6, i6, i6]) (.var 3))), (.c (.x i6 (.var 4))), (.c (.x i6 (.var 5))), .any, .any, .any, .any, .any, .any, .any, .any, .any, .any, .any, .any, .any, .any, .any, .any, .any, .any, .any, .any, .any, .any, .any, .any, .any, .any, .any, .any, .any, .any, .any, .any, .any, .any, .any, .any, .any, .any, .any, .any, .any, .any, .any, .any, .any, .any, .any, .any],
    [none, none, some ⟨(.t true), (.box 29 [(.x (.sl 40 [i6, i6, i6, i6]) (.var 6))] false)⟩, some ⟨(.t true), (.box 56 [(.x (.pn [.str, .bool, (.sl 38 [.str, .str, i6, i6, i6, (.sl 53 [.str, i6])]), (.sl 55 [i6, i6, i6, i6, .str, i6, i6]), (.sl 50 [.str, i6]), i6, i6, i6, i6, i6, (.sl 40 [i6, i6, i6, i6]), (.sl 59 [(.sl 61 [i6, i6, i6, i6, i6])]), (.sl 75 [i6, i6])]) (.var 7))] false)⟩, some ⟨(.t true), (.row 40 [i6, i6, i6, i6] (.var 8) 1 false)⟩, some ⟨(.t true), (.row 40 [i6, i6, i6, i6] (.var 9) 1 false)⟩, some ⟨(.t true), (.box 29 [(.row 4 1)] false)⟩, some ⟨(.t true), (.box 29 [(.row 5 1)] false)⟩]⟩,
   10, [5, 8, 9], [22, 23, 24, 13, 25, 26, 27, 28, 29, 14, 30, 31, 32, 33, 34, 35, 36, 37, 38, 39, 40, 15, 41, 42, 43, 16, 44, 45, 46, 47, 48, 49, 18, 50, 51, 52, 53, 54, 55, 56, 57, 58, 59, 60, 61, 62, 63, 64, 65, 66, 67, 68, 69, 21], [(.exit 0)], []⟩
def Lp10_0_1 : LoopSig := ⟨12050, [],
   ⟨[.any, .any, .any, .any, .any, .any, (.c (.ptr 2 0)), (.c (.ptr 6 0)), .any, .any, .any, .any, .any, .any, (.c (.ptr 9 0)), .any, (.c (.ptr 10 0)), .any, .any, .any, .any, .any, .any, .any, .any, .any, .any, .any, .any, .any, .any, .any, .any, .any, .any, .any, .any, .any, .any, .any, .any, .any, .any, .any, (.c (.x (.sl 3 [i6]) (.var 0))), (.c (.x i6 (.var 1))), (.c (.x i6 (.var 2))), .any, .any, .any, .any, .any, .any, .any, .any, .any, .any, .any, .any, .any, .any, .any, .any, .any, .any, .any, .any, .any, .any, .any],
    [none, none, some ⟨(.t true), (.box 29 [(.x (.sl 40 [i6, i6, i6, i6]) (.var 3))] false)⟩, none, some ⟨(.t true), (.row 40 [i6, i6, i6, i6] (.var 4) 1 false)⟩, none, some ⟨(.t true), (.box 29 [(.row 4 1)] false)⟩, none, none, some ⟨(.t true), (.box 40 [(.x i6 (.var 5)), (.x i6 (.var 6)), (.x i6 (.var 7)), (.x i6 (.var 8))] false)⟩, some ⟨(.t true), (.box 40 [(.x i6 (.var 9)), (.x i6 (.var 10)), (.x i6 (.var 11)), (.x i6 (.var 12))] false)⟩]⟩,
   13, [2, 4], [47, 48, 49, 18, 50, 51, 52, 53, 54, 55, 56, 57, 58, 59, 60, 61, 62, 63, 64, 65, 66, 67, 68, 46], [(.exit 2)], []⟩
def ltp10_0 : List (Nat × LoopSig) := [(1, Lp10_0_0), (9, Lp10_0_1)]
theorem kp10_0 : (Code.loops cp10_0).length = 2 := by kernel_rfl
noncomputable def lbp10_0_0 : Code := (Code.loops cp10_0).getD 0 .skip
noncomputable def lbp10_0_1 : Code := (Code.loops cp10_0).getD 1 .skip
def rtp10_0_0 : VT :=
  (.ite (.bin .lt (.var 5) (.var 4))
   (.need (.t true) (.c (.bin .le (.n 0) (.var 5)))
   (.need (.t true) (.c (.bin .lt (.var 5) (.un .len (.var 3))))
   (.need (.t true) (.pre 21 (.cons (.sel 1 (.var 3) (.var 5)) (.cons (.sel 2 (.var 3) (.var 5)) (.cons (.sel 3 (.var 3) (.var 5)) (.cons (.sel 4 (.var 3) (.var 5)) (.cons (.var 1) (.cons (.var 2) .nil)))))))
   (.lt (.app 21 (.cons (.sel 1 (.var 3) (.var 5)) (.cons (.sel 2 (.var 3) (.var 5)) (.cons (.sel 3 (.var 3) (.var 5)) (.cons (.sel 4 (.var 3) (.var 5)) (.cons (.var 1) (.cons (.var 2) .nil)))))) 0) 4
   (.ite (.bin .le (.n 0) (.sel 0 (.var 3) (.var 5)))
    (.need (.t true) (.c (.bin .lt (.sel 0 (.var 3) (.var 5)) (.un .len (.var 9))))
    (.ret (.cons (.n (-1)) (.cons (.bin (.add .i64) (.var 5) (.n 1)) (.cons (.var 8) (.cons (.upd 0 (.var 9) (.sel 0 (.var 3) (.var 5)) (.cons (.var 10) (.cons (.var 11) (.cons (.var 12) (.cons (.var 13) .nil))))) .nil))))))
    (.need (.t true) (.pre 22 (.cons (.var 7) (.cons (.var 0) .nil)))
    (.lt (.app 22 (.cons (.var 7) (.cons (.var 0) .nil)) 0) 1
    (.need (.t true) (.pre 23 (.cons (.var 7) (.cons (.var 14) .nil)))
    (.lt (.app 23 (.cons (.var 7) (.cons (.var 14) .nil)) 0) 4
    (.need (.t true) (.pre 12050 (.cons (.var 14) (.cons (.un .len (.var 14)) (.cons (.n 0) (.cons (.var 6) (.cons (.var 8) (.cons (.var 10) (.cons (.var 11) (.cons (.var 12) (.cons (.var 13) (.cons (.var 15) (.cons (.var 16) (.cons (.var 17) (.cons (.var 18) .nil))))))))))))))
    (.lt (.app 12050 (.cons (.var 14) (.cons (.un .len (.var 14)) (.cons (.n 0) (.cons (.var 6) (.cons (.var 8) (.cons (.var 10) (.cons (.var 11) (.cons (.var 12) (.cons (.var 13) (.cons (.var 15) (.cons (.var 16) (.cons (.var 17) (.cons (.var 18) .nil))))))))))))) 0) 3
    (.ret (.cons (.n (-1)) (.cons (.bin (.add .i64) (.var 5) (.n 1)) (.cons (.var 21) (.cons (.var 9) .nil))))))))))))))))
   (.ret (.cons (.n 0) (.cons (.var 5) (.cons (.var 8) (.cons (.var 9) .nil))))))
theorem lep10_0_0 : (loopVT Try.prog (sgOf sgp10_0) (ltOf ltp10_0) Lp10_0_0 lbp10_0_0).slim Lp10_0_0.nv [] = rtp10_0_0 := by kernel_rfl
theorem lfp10_0_0 : (firstRegion lbp10_0_0).bind (ltOf ltp10_0) = some Lp10_0_0 := by kernel_rfl
theorem lkp10_0_0 : (Code.loops lbp10_0_0).length = 1 := by kernel_rfl
theorem lip10_0_0_0 : (Code.loops lbp10_0_0).getD 0 .skip = lbp10_0_1 := by kernel_rfl
def rtp10_0_1 : VT :=
  (.ite (.bin .lt (.var 2) (.var 1))
   (.need (.t true) (.c (.bin .le (.n 0) (.var 2)))
   (.need (.t true) (.c (.bin .lt (.var 2) (.un .len (.var 0))))
   (.need (.t true) (.c (.bin .le (.n 0) (.sel 0 (.var 0) (.var 2))))
   (.need (.t true) (.c (.bin .lt (.sel 0 (.var 0) (.var 2)) (.un .len (.var 3))))
   (.need (.t true) (.pre 21 (.cons (.sel 0 (.var 3) (.sel 0 (.var 0) (.var 2))) (.cons (.sel 1 (.var 3) (.sel 0 (.var 0) (.var 2))) (.cons (.sel 2 (.var 3) (.sel 0 (.var 0) (.var 2))) (.cons (.sel 3 (.var 3) (.sel 0 (.var 0) (.var 2))) (.cons (.bin (.sub .i64) (.var 5) (.var 9)) (.cons (.bin (.sub .i64) (.var 6) (.var 10)) .nil)))))))
   (.lt (.app 21 (.cons (.sel 0 (.var 3) (.sel 0 (.var 0) (.var 2))) (.cons (.sel 1 (.var 3) (.sel 0 (.var 0) (.var 2))) (.cons (.sel 2 (.var 3) (.sel 0 (.var 0) (.var 2))) (.cons (.sel 3 (.var 3) (.sel 0 (.var 0) (.var 2))) (.cons (.bin (.sub .i64) (.var 5) (.var 9)) (.cons (.bin (.sub .i64) (.var 6) (.var 10)) .nil)))))) 0) 4
   (.need (.t true) (.c (.bin .lt (.sel 0 (.var 0) (.var 2)) (.un .len (.var 4))))
   (.ret (.cons (.n (-1)) (.cons (.bin (.add .i64) (.var 2) (.n 1)) (.cons (.upd 0 (.var 4) (.sel 0 (.var 0) (.var 2)) (.cons (.var 13) (.cons (.var 14) (.cons (.var 15) (.cons (.var 16) .nil))))) .nil)))))))))))
   (.ret (.cons (.n 0) (.cons (.var 2) (.cons (.var 4) .nil)))))
theorem lep10_0_1 : (loopVT Try.prog (sgOf sgp10_0) (ltOf ltp10_0) Lp10_0_1 lbp10_0_1).slim Lp10_0_1.nv [] = rtp10_0_1 := by kernel_rfl
theorem lfp10_0_1 : (firstRegion lbp10_0_1).bind (ltOf ltp10_0) = some Lp10_0_1 := by kernel_rfl
theorem lkp10_0_1 : (Code.loops lbp10_0_1).length = 0 := by kernel_rfl
def pv10_0 : VT :=
  (.need (.t true) (.pre 12051 (.cons (.var 4) (.cons (.var 6) (.cons (.var 7) (.cons (.var 5) (.cons (.un .len (.var 5)) (.cons (.n 0) (.cons (.var 0) (.cons (.var 1) (.cons (.var 2) (.cons (.var 3) .nil)))))))))))
  (.lt (.app 12051 (.cons (.var 4) (.cons (.var 6) (.cons (.var 7) (.cons (.var 5) (.cons (.un .len (.var 5)) (.cons (.n 0) (.cons (.var 0) (.cons (.var 1) (.cons (.var 2) (.cons (.var 3) .nil)))))))))) 0) 4
  (.ret (.cons (.n 0) (.cons (.var 10) (.cons (.var 11) .nil))))))
theorem pe10_0 : (procVT Try.prog (sgOf sgp10_0) (ltOf ltp10_0) Sp10_20 P10_0 4 Try.f20 cp10_0).slim P10_0.nv [] = pv10_0 := by kernel_rfl
theorem pp10_0 : P10_0.head.plain = true := by kernel_rfl
theorem pl10_0 : P10_0.head.slots.length = Try.f20.ntmps := by kernel_rfl
def L10_0 : LoopSig := ⟨11000, [],
   ⟨[.any, .any, .any, .any, (.c (.ptr 1 0)), .any, .any, .any, .any, (.c (.ptr 3 0)), .any, .any, (.c (.ptr 7 0)), (.c (.fn 20 [(7, 0), (3, 0), (2, 0), (6, 0)])), .any, .any, .any, .any, .any, .any, .any, .any, .any, .any, .any, .any, .any, .any, .any, .any, .any, .any, .any, .any, .any, .any, .any, .any, .any, .any, .any, .any, .any, .any, .any, .any, (.c (.x i6 (.var 0))), (.c (.x i6 (.var 1))), .any, .any, .any, .any, .any, .any, .any, .any, .any, .any, .any, .any, .any, .any, .any, .any, .any, .any, .any, .any, .any, .any, .any, .any, .any, .any, .any, .any, .any, .any, .any, .any, .any, .any, .any, .any, .any, .any, .any],
    [none, some ⟨(.t true), (.box 28 [(.x i6 (.var 2)), (.x i6 (.var 3)), (.x i6 (.var 4)), (.x i6 (.var 5)), (.x i6 (.var 6))] false)⟩, some ⟨(.t true), (.box 29 [(.x (.sl 40 [i6, i6, i6, i6]) (.var 7))] false)⟩, some ⟨(.t true), (.box 56 [(.x (.pn [.str, .bool, (.sl 38 [.str, .str, i6, i6, i6, (.sl 53 [.str, i6])]), (.sl 55 [i6, i6, i6, i6, .str, i6, i6]), (.sl 50 [.str, i6]), i6, i6, i6, i6, i6, (.sl 40 [i6, i6, i6, i6]), (.sl 59 [(.sl 61 [i6, i6, i6, i6, i6])]), (.sl 75 [i6, i6])]) (.var 8))] false)⟩, some ⟨(.t true), (.row 40 [i6, i6, i6, i6] (.var 9) 1 false)⟩, some ⟨(.t true), (.row 40 [i6, i6, i6, i6] (.var 10) 1 false)⟩, some ⟨(.t true), (.box 29 [(.row 4 1)] false)⟩, some ⟨(.t true), (.box 29 [(.row 5 1)] false)⟩]⟩,
   11, [1, 9, 10], [48, 49, 14, 50, 51, 52, 53, 54, 55, 56, 57, 58, 59, 60, 61, 62, 63, 64, 65, 66, 67, 68, 69, 70, 71, 72, 73, 74, 75, 76, 47], [(.exit 0)], []⟩
def lt10 : List (Nat × LoopSig) := [(8, L10_0)]
theorem k10 : (Code.loops c10).length = 1 := by kernel_rfl
noncomputable def lb10_0 : Code := (Code.loops c10).getD 0 .skip
def rt10_0 : VT :=
  (.ite (.bin .lt (.var 1) (.var 0))
   (.need (.t true) (.c (.un (.pnn 13) (.var 8)))
   (.need (.t true) (.c (.bin .le (.n 0) (.var 1)))
   (.need (.t true) (.c (.bin .lt (.var 1) (.un .len (.psel 11 (.var 8)))))
   (.need (.t true) (.c (.bin .lt (.var 1) (.un .len (.var 10))))
   (.need (.t true) (.pre 17020000 (.cons (.var 7) (.cons (.var 8) (.cons (.var 9) (.cons (.var 10) (.cons (.var 1) (.cons (.sel 0 (.psel 11 (.var 8)) (.var 1)) (.cons (.bin (.add .i64) (.sel 0 (.var 10) (.var 1)) (.var 5)) (.cons (.bin (.add .i64) (.sel 1 (.var 10) (.var 1)) (.var 5)) .nil)))))))))
   (.lt (.app 17020000 (.cons (.var 7) (.cons (.var 8) (.cons (.var 9) (.cons (.var 10) (.cons (.var 1) (.cons (.sel 0 (.psel 11 (.var 8)) (.var 1)) (.cons (.bin (.add .i64) (.sel 0 (.var 10) (.var 1)) (.var 5)) (.cons (.bin (.add .i64) (.sel 1 (.var 10) (.var 1)) (.var 5)) .nil)))))))) 0) 3
   (.ret (.cons (.n (-1)) (.cons (.bin (.add .i64) (.var 1) (.n 1)) (.cons (.var 12) (.cons (.var 13) .nil)))))))))))
   (.ret (.cons (.n 0) (.cons (.var 1) (.cons (.var 9) (.cons (.var 10) .nil))))))
theorem le10_0 : (loopVT Try.prog (sgOf sg10) (ltOf lt10) L10_0 lb10_0).slim L10_0.nv [] = rt10_0 := by kernel_rfl
theorem lf10_0 : (firstRegion lb10_0).bind (ltOf lt10) = some L10_0 := by kernel_rfl
theorem lk10_0 : (Code.loops lb10_0).length = 0 := by kernel_rfl
def vt10 : VT :=
  (.need (.t true) (.pre 19 (.cons (.var 0) (.cons (.var 1) (.cons (.var 2) (.cons (.var 3) (.cons (.var 4) (.cons (.var 5) (.cons (.var 6) (.cons (.var 7) (.cons (.var 8) (.cons (.var 9) (.cons (.var 10) .nil))))))))))))
  (.lt (.app 19 (.cons (.var 0) (.cons (.var 1) (.cons (.var 2) (.cons (.var 3) (.cons (.var 4) (.cons (.var 5) (.cons (.var 6) (.cons (.var 7) (.cons (.var 8) (.cons (.var 9) (.cons (.var 10) .nil))))))))))) 0) 2
  (.ite (.un .not (.bin .eq (.var 12) (.n 0)))
   (.ret (.cons .lnil (.cons .lnil (.cons (.var 12) .nil))))
   (.need (.t true) (.c (.bin .le (.un .len (.var 2)) (.n 4398046511104)))
   (.need (.t true) (.c (.bin .le (.un .len (.var 4)) (.n 4398046511104)))
   (.need (.t true) (.c (.un (.pnn 13) (.var 11)))
   (.need (.t true) (.c (.bin .lt (.un .len (.rep (.un .len (.var 4)) (.cons (.n 0) (.cons (.n 0) (.cons (.n 0) (.cons (.n 0) .nil)))))) (.un .len (.psel 11 (.var 11)))))
   (.need (.t true) (.pre 17020000 (.cons (.var 10) (.cons (.var 11) (.cons (.rep (.un .len (.var 2)) (.cons (.n 0) (.cons (.n 0) (.cons (.n 0) (.cons (.n 0) .nil))))) (.cons (.rep (.un .len (.var 4)) (.cons (.n 0) (.cons (.n 0) (.cons (.n 0) (.cons (.n 0) .nil))))) (.cons (.n (-1)) (.cons (.sel 0 (.psel 11 (.var 11)) (.un .len (.rep (.un .len (.var 4)) (.cons (.n 0) (.cons (.n 0) (.cons (.n 0) (.cons (.n 0) .nil))))))) (.cons (.n 0) (.cons (.n 0) .nil)))))))))
   (.lt (.app 17020000 (.cons (.var 10) (.cons (.var 11) (.cons (.rep (.un .len (.var 2)) (.cons (.n 0) (.cons (.n 0) (.cons (.n 0) (.cons (.n 0) .nil))))) (.cons (.rep (.un .len (.var 4)) (.cons (.n 0) (.cons (.n 0) (.cons (.n 0) (.cons (.n 0) .nil))))) (.cons (.n (-1)) (.cons (.sel 0 (.psel 11 (.var 11)) (.un .len (.rep (.un .len (.var 4)) (.cons (.n 0) (.cons (.n 0) (.cons (.n 0) (.cons (.n 0) .nil))))))) (.cons (.n 0) (.cons (.n 0) .nil)))))))) 0) 3
   (.need (.t true) (.pre 11000 (.cons (.un .len (.var 15)) (.cons (.n 0) (.cons (.var 5) (.cons (.var 6) (.cons (.var 7) (.cons (.var 8) (.cons (.var 9) (.cons (.var 10) (.cons (.var 11) (.cons (.var 14) (.cons (.var 15) .nil))))))))))))
   (.lt (.app 11000 (.cons (.un .len (.var 15)) (.cons (.n 0) (.cons (.var 5) (.cons (.var 6) (.cons (.var 7) (.cons (.var 8) (.cons (.var 9) (.cons (.var 10) (.cons (.var 11) (.cons (.var 14) (.cons (.var 15) .nil))))))))))) 0) 4
   (.need (.t true) (.pre 25 (.cons (.var 18) (.cons (.clo 24 [] .nil) .nil)))
   (.lt (.app 25 (.cons (.var 18) (.cons (.clo 24 [] .nil) .nil)) 0) 1
   (.need (.un .not (.var 20)) (.pre 25 (.cons (.var 19) (.cons (.clo 24 [] .nil) .nil)))
   (.lt (.app 25 (.cons (.var 19) (.cons (.clo 24 [] .nil) .nil)) 0) 1
   (.ite (.ite (.var 20) (.t true) (.var 21))
    (.ret (.cons .lnil (.cons .lnil (.cons (.n 2) .nil))))
    (.ret (.cons (.var 18) (.cons (.var 19) (.cons (.n 0) .nil))))))))))))))))))))
theorem e10 : (fnVT Try.prog (sgOf sg10) (ltOf lt10) S10 Try.f10 c10).slim (S10.ps.map fun p => p.2.length).sum [] = vt10 := by kernel_rfl
def S37 : Sig := ⟨[(false, [(.sl 40 [i6, i6, i6, i6])]), (false, [(.sl 40 [i6, i6, i6, i6])])], [(false, [.bool])], [], none⟩
noncomputable def c37 : Code := Try.f37.body.getD .skip
theorem b37 : Try.f37.body = some c37 := body_some (by kernel_rfl)
theorem n37 : (Try.f37.name == "runtime.NumGoroutine") = false := by kernel_rfl
def sg37 : List (FuncId × Sig) := []
def L37_0 : LoopSig := ⟨13700, [],
   ⟨[(.c (.x (.sl 40 [i6, i6, i6, i6]) (.var 0))), (.c (.x (.sl 40 [i6, i6, i6, i6]) (.var 1))), .any, .any, (.c (.x .bool (.var 2))), (.c (.x i6 (.var 3))), .any, .any, .any, .any, .any, .any, .any, .any, .any, .any, .any, .any, .any, .any, .any, .any, .any, .any, .any, .any],
    []⟩,
   4, [2, 3], [11, 12, 13, 14, 17, 18, 19, 20, 21, 22, 23, 24, 25, 4, 15, 16, 5], [.ret, (.exit 0)], []⟩
def lt37 : List (Nat × LoopSig) := [(4, L37_0)]
theorem k37 : (Code.loops c37).length = 1 := by kernel_rfl
noncomputable def lb37_0 : Code := (Code.loops c37).getD 0 .skip
def rt37_0 : VT :=
  (.ite (.bin .lt (.var 3) (.un .len (.var 0)))
   (.need (.t true) (.c (.bin .le (.n 0) (.var 3)))
   (.need (.t true) (.c (.bin .lt (.var 3) (.un .len (.var 1))))
   (.ite (.un .not (.ite (.bin .eq (.sel 0 (.var 0) (.var 3)) (.sel 0 (.var 1) (.var 3))) (.ite (.bin .eq (.sel 1 (.var 0) (.var 3)) (.sel 1 (.var 1) (.var 3))) (.ite (.bin .eq (.sel 2 (.var 0) (.var 3)) (.sel 2 (.var 1) (.var 3))) (.bin .eq (.sel 3 (.var 0) (.var 3)) (.sel 3 (.var 1) (.var 3))) (.t false)) (.t false)) (.t false)))
    (.ret (.cons (.n 0) (.cons (.t false) (.cons (.var 3) .nil))))
    (.ret (.cons (.n (-1)) (.cons (.var 2) (.cons (.bin (.add .i64) (.var 3) (.n 1)) .nil)))))))
   (.ret (.cons (.n 1) (.cons (.var 2) (.cons (.var 3) .nil)))))
theorem le37_0 : (loopVT Try.prog (sgOf sg37) (ltOf lt37) L37_0 lb37_0).slim L37_0.nv [] = rt37_0 := by kernel_rfl
theorem lf37_0 : (firstRegion lb37_0).bind (ltOf lt37) = some L37_0 := by kernel_rfl
theorem lk37_0 : (Code.loops lb37_0).length = 0 := by kernel_rfl
def vt37 : VT :=
  (.ite (.un .not (.bin .eq (.un .len (.var 0)) (.un .len (.var 1))))
   (.ret (.cons (.t false) .nil))
   (.need (.t true) (.pre 13700 (.cons (.var 0) (.cons (.var 1) (.cons (.t false) (.cons (.n 0) .nil)))))
   (.lt (.app 13700 (.cons (.var 0) (.cons (.var 1) (.cons (.t false) (.cons (.n 0) .nil)))) 0) 3
   (.ite (.bin .eq (.var 2) (.n 0))
    (.ret (.cons (.var 3) .nil))
    (.ret (.cons (.t true) .nil))))))
theorem e37 : (fnVT Try.prog (sgOf sg37) (ltOf lt37) S37 Try.f37 c37).slim (S37.ps.map fun p => p.2.length).sum [] = vt37 := by kernel_rfl
def S14 : Sig := ⟨[(false, [(.sl 40 [i6, i6, i6, i6])]), (false, [(.sl 40 [i6, i6, i6, i6])])], [(false, [.bool])], [], none⟩
noncomputable def c14 : Code := Try.f14.body.getD .skip
theorem b14 : Try.f14.body = some c14 := body_some (by kernel_rfl)
theorem n14 : (Try.f14.name == "runtime.NumGoroutine") = false := by kernel_rfl
def sg14 : List (FuncId × Sig) := [(37, S37)]
def lt14 : List (Nat × LoopSig) := []
theorem k14 : (Code.loops c14).length = 0 := by kernel_rfl
def vt14 : VT :=
  (.need (.t true) (.pre 37 (.cons (.var 0) (.cons (.var 1) .nil)))
  (.lt (.app 37 (.cons (.var 0) (.cons (.var 1) .nil)) 0) 1
  (.ret (.cons (.var 2) .nil))))
theorem e14 : (fnVT Try.prog (sgOf sg14) (ltOf lt14) S14 Try.f14 c14).slim (S14.ps.map fun p => p.2.length).sum [] = vt14 := by kernel_rfl
def S88 : Sig := ⟨[(true, [i6, i6, i6, i6])], [(true, [i6, i6, i6, i6])], [], none⟩
noncomputable def c88 : Code := Try.f88.body.getD .skip
theorem b88 : Try.f88.body = some c88 := body_some (by kernel_rfl)
theorem n88 : (Try.f88.name == "runtime.NumGoroutine") = false := by kernel_rfl
def sg88 : List (FuncId × Sig) := [(17, S17)]
def lt88 : List (Nat × LoopSig) := []
theorem k88 : (Code.loops c88).length = 0 := by kernel_rfl
def vt88 : VT :=
  (.need (.t true) (.pre 17 (.cons (.var 0) (.cons (.var 1) (.cons (.var 2) (.cons (.var 3) .nil)))))
  (.lt (.app 17 (.cons (.var 0) (.cons (.var 1) (.cons (.var 2) (.cons (.var 3) .nil)))) 0) 1
  (.ite (.un .not (.var 4))
   (.ret (.cons (.n 0) (.cons (.n 0) (.cons (.n 0) (.cons (.n 0) .nil)))))
   (.ret (.cons (.var 0) (.cons (.var 1) (.cons (.var 2) (.cons (.var 3) .nil))))))))
theorem e88 : (fnVT Try.prog (sgOf sg88) (ltOf lt88) S88 Try.f88 c88).slim (S88.ps.map fun p => p.2.length).sum [] = vt88 := by kernel_rfl
def T88 : FuncId → List D → List D := tabOf [(17, fn17)]
def fn88 (ρ : List D) : List D := vt88.val T88 ρ
theorem m88 : Meets Try.prog 88 S88 (fun _ => True) fn88 := meets_easy (sgl := sg88) (Φ := T88) mixed (List.forall_mem_cons.2 ⟨m17, (fun _ h => nomatch h)⟩) Try.func88 b88 n88 k88 e88 (by kernel_rfl)
def S58 : Sig := ⟨[(true, [i6, i6, i6, i6]), (false, [i6])], [(true, [i6, i6, i6, i6])], [], none⟩
noncomputable def c58 : Code := Try.f58.body.getD .skip
theorem b58 : Try.f58.body = some c58 := body_some (by kernel_rfl)
theorem n58 : (Try.f58.name == "runtime.NumGoroutine") = false := by kernel_rfl
def sg58 : List (FuncId × Sig) := [(17, S17), (88, S88)]
def lt58 : List (Nat × LoopSig) := []
theorem k58 : (Code.loops c58).length = 0 := by kernel_rfl
def vt58 : VT :=
  (.need (.t true) (.pre 17 (.cons (.var 0) (.cons (.var 1) (.cons (.var 2) (.cons (.var 3) .nil)))))
  (.lt (.app 17 (.cons (.var 0) (.cons (.var 1) (.cons (.var 2) (.cons (.var 3) .nil)))) 0) 1
  (.ite (.ite (.ite (.un .not (.var 5)) (.t true) (.bin .lt (.n 536870912) (.var 4))) (.t true) (.bin .lt (.var 4) (.n (-536870912))))
   (.ret (.cons (.n 0) (.cons (.n 0) (.cons (.n 0) (.cons (.n 0) .nil)))))
   (.need (.t true) (.pre 88 (.cons (.bin (.sub .i64) (.var 0) (.var 4)) (.cons (.bin (.sub .i64) (.var 1) (.var 4)) (.cons (.bin (.add .i64) (.var 2) (.var 4)) (.cons (.bin (.add .i64) (.var 3) (.var 4)) .nil)))))
   (.lt (.app 88 (.cons (.bin (.sub .i64) (.var 0) (.var 4)) (.cons (.bin (.sub .i64) (.var 1) (.var 4)) (.cons (.bin (.add .i64) (.var 2) (.var 4)) (.cons (.bin (.add .i64) (.var 3) (.var 4)) .nil)))) 0) 4
   (.ret (.cons (.var 6) (.cons (.var 7) (.cons (.var 8) (.cons (.var 9) .nil))))))))))
theorem e58 : (fnVT Try.prog (sgOf sg58) (ltOf lt58) S58 Try.f58 c58).slim (S58.ps.map fun p => p.2.length).sum [] = vt58 := by kernel_rfl
def T58 : FuncId → List D → List D := tabOf [(17, fn17), (88, fn88)]
def fn58 (ρ : List D) : List D := vt58.val T58 ρ
theorem m58 : Meets Try.prog 58 S58 (fun _ => True) fn58 := meets_easy (sgl := sg58) (Φ := T58) mixed (List.forall_mem_cons.2 ⟨m17, List.forall_mem_cons.2 ⟨m88, (fun _ h => nomatch h)⟩⟩) Try.func58 b58 n58 k58 e58 (by kernel_rfl)
def S57 : Sig := ⟨[(true, [i6, i6, i6, i6]), (true, [i6, i6, i6, i6])], [(false, [.bool])], [], none⟩
noncomputable def c57 : Code := Try.f57.body.getD .skip
theorem b57 : Try.f57.body = some c57 := body_some (by kernel_rfl)
theorem n57 : (Try.f57.name == "runtime.NumGoroutine") = false := by kernel_rfl
def sg57 : List (FuncId × Sig) := [(17, S17)]
def lt57 : List (Nat × LoopSig) := []
theorem k57 : (Code.loops c57).length = 0 := by kernel_rfl
def vt57 : VT :=
  (.need (.t true) (.pre 17 (.cons (.var 0) (.cons (.var 1) (.cons (.var 2) (.cons (.var 3) .nil)))))
  (.lt (.app 17 (.cons (.var 0) (.cons (.var 1) (.cons (.var 2) (.cons (.var 3) .nil)))) 0) 1
  (.need (.var 8) (.pre 17 (.cons (.var 4) (.cons (.var 5) (.cons (.var 6) (.cons (.var 7) .nil)))))
  (.lt (.app 17 (.cons (.var 4) (.cons (.var 5) (.cons (.var 6) (.cons (.var 7) .nil)))) 0) 1
  (.ret (.cons (.ite (.ite (.ite (.ite (.ite (.var 8) (.var 9) (.t false)) (.bin .le (.var 4) (.var 0)) (.t false)) (.bin .le (.var 2) (.var 6)) (.t false)) (.bin .le (.var 5) (.var 1)) (.t false)) (.bin .le (.var 3) (.var 7)) (.t false)) .nil))))))
theorem e57 : (fnVT Try.prog (sgOf sg57) (ltOf lt57) S57 Try.f57 c57).slim (S57.ps.map fun p => p.2.length).sum [] = vt57 := by kernel_rfl
def T57 : FuncId → List D → List D := tabOf [(17, fn17)]
def fn57 (ρ : List D) : List D := vt57.val T57 ρ
theorem m57 : Meets Try.prog 57 S57 (fun _ => True) fn57 := meets_easy (sgl := sg57) (Φ := T57) mixed (List.forall_mem_cons.2 ⟨m17, (fun _ h => nomatch h)⟩) Try.func57 b57 n57 k57 e57 (by kernel_rfl)
def S56 : Sig := ⟨[(true, [i6, i6, i6, i6]), (false, [i6]), (false, [(.pt [(.sl 40 [i6, i6, i6, i6])])]), (false, [(.pt [i6])])], [(false, [.bool])], [], none⟩
noncomputable def c56 : Code := Try.f56.body.getD .skip
theorem b56 : Try.f56.body = some c56 := body_some (by kernel_rfl)
theorem n56 : (Try.f56.name == "runtime.NumGoroutine") = false := by kernel_rfl
def sg56 : List (FuncId × Sig) := [(58, S58), (57, S57)]
def lt56 : List (Nat × LoopSig) := []
theorem k56 : (Code.loops c56).length = 0 := by kernel_rfl
def vt56 : VT :=
  (.need (.un .not (.bin .lt (.var 4) (.n 0))) (.c (.bin .le (.n 0) (.var 4)))
  (.need (.un .not (.bin .lt (.var 4) (.n 0))) (.c (.bin .lt (.var 4) (.un .len (.psel 0 (.var 5)))))
  (.need (.un .not (.bin .lt (.var 4) (.n 0))) (.pre 58 (.cons (.sel 0 (.psel 0 (.var 5)) (.var 4)) (.cons (.sel 1 (.psel 0 (.var 5)) (.var 4)) (.cons (.sel 2 (.psel 0 (.var 5)) (.var 4)) (.cons (.sel 3 (.psel 0 (.var 5)) (.var 4)) (.cons (.un (.neg .i64) (.psel 0 (.var 6))) .nil))))))
  (.lt (.app 58 (.cons (.sel 0 (.psel 0 (.var 5)) (.var 4)) (.cons (.sel 1 (.psel 0 (.var 5)) (.var 4)) (.cons (.sel 2 (.psel 0 (.var 5)) (.var 4)) (.cons (.sel 3 (.psel 0 (.var 5)) (.var 4)) (.cons (.un (.neg .i64) (.psel 0 (.var 6))) .nil))))) 0) 4
  (.need (.un .not (.bin .lt (.var 4) (.n 0))) (.pre 57 (.cons (.var 0) (.cons (.var 1) (.cons (.var 2) (.cons (.var 3) (.cons (.var 7) (.cons (.var 8) (.cons (.var 9) (.cons (.var 10) .nil)))))))))
  (.lt (.app 57 (.cons (.var 0) (.cons (.var 1) (.cons (.var 2) (.cons (.var 3) (.cons (.var 7) (.cons (.var 8) (.cons (.var 9) (.cons (.var 10) .nil)))))))) 0) 1
  (.ret (.cons (.ite (.bin .lt (.var 4) (.n 0)) (.t true) (.var 11)) .nil))))))))
theorem e56 : (fnVT Try.prog (sgOf sg56) (ltOf lt56) S56 Try.f56 c56).slim (S56.ps.map fun p => p.2.length).sum [] = vt56 := by kernel_rfl
def S30 : Sig := ⟨[(true, [.str, .bool, (.sl 38 [.str, .str, i6, i6, i6, (.sl 53 [.str, i6])]), (.sl 55 [i6, i6, i6, i6, .str, i6, i6]), (.sl 50 [.str, i6])]), (false, [i6]), (false, [(.sl 40 [i6, i6, i6, i6])]), (false, [(.sl 40 [i6, i6, i6, i6])])], [(false, [.bool])], [], none⟩
noncomputable def c30 : Code := Try.f30.body.getD .skip
theorem b30 : Try.f30.body = some c30 := body_some (by kernel_rfl)
theorem n30 : (Try.f30.name == "runtime.NumGoroutine") = false := by kernel_rfl
def sg30 : List (FuncId × Sig) := [(56, S56)]
def L30_0 : LoopSig := ⟨13000, [],
   ⟨[.any, .any, (.c (.x (.sl 40 [i6, i6, i6, i6]) (.var 0))), .any, .any, .any, .any, .any, (.c (.x .bool (.var 1))), (.c (.fn 56 [(2, 0), (1, 0)])), .any, .any, .any, .any, .any, .any, (.c (.x (.sl 38 [.str, .str, i6, i6, i6, (.sl 53 [.str, i6])]) (.var 2))), (.c (.x i6 (.var 3))), (.c (.x i6 (.var 4))), .any, .any, .any, .any, .any, .any, .any, .any, .any, .any, .any, .any, .any, .any, .any, .any, .any, .any, .any, .any, .any, .any, .any, .any, .any, .any, .any, .any, .any, .any, .any, .any],
    [none, some ⟨(.t true), (.box 3 [(.x i6 (.var 5))] false)⟩, some ⟨(.t true), (.box 29 [(.x (.sl 40 [i6, i6, i6, i6]) (.var 6))] false)⟩]⟩,
   7, [1, 4], [19, 20, 21, 22, 11, 10, 23, 24, 25, 26, 27, 28, 29, 30, 31, 8, 32, 18], [.ret, (.exit 0)], []⟩
def L30_1 : LoopSig := ⟨13001, [],
   ⟨[.any, .any, .any, .any, .any, .any, .any, (.c (.ptr 2 0)), (.c (.x .bool (.var 0))), (.c (.fn 56 [(2, 0), (1, 0)])), .any, .any, .any, .any, .any, .any, .any, .any, .any, .any, .any, .any, .any, .any, .any, .any, .any, .any, .any, .any, .any, .any, .any, .any, (.c (.x (.sl 50 [.str, i6]) (.var 1))), (.c (.x i6 (.var 2))), (.c (.x i6 (.var 3))), .any, .any, .any, .any, .any, .any, .any, .any, .any, .any, .any, .any, .any, .any],
    [none, some ⟨(.t true), (.box 3 [(.x i6 (.var 4))] false)⟩, some ⟨(.t true), (.box 29 [(.x (.sl 40 [i6, i6, i6, i6]) (.var 5))] false)⟩]⟩,
   6, [0, 3], [37, 38, 39, 40, 13, 12, 41, 42, 43, 44, 45, 46, 47, 48, 49, 8, 50, 36], [.ret, (.exit 2)], []⟩
def lt30 : List (Nat × LoopSig) := [(3, L30_0), (9, L30_1)]
theorem k30 : (Code.loops c30).length = 2 := by kernel_rfl
noncomputable def lb30_0 : Code := (Code.loops c30).getD 0 .skip
noncomputable def lb30_1 : Code := (Code.loops c30).getD 1 .skip
def rt30_0 : VT :=
  (.ite (.bin .lt (.var 4) (.var 3))
   (.need (.t true) (.c (.bin .le (.n 0) (.var 4)))
   (.need (.t true) (.c (.bin .lt (.var 4) (.un .len (.var 2))))
   (.need (.t true) (.c (.bin .lt (.var 4) (.un .len (.var 0))))
   (.need (.t true) (.pre 56 (.cons (.sel 0 (.var 0) (.var 4)) (.cons (.sel 1 (.var 0) (.var 4)) (.cons (.sel 2 (.var 0) (.var 4)) (.cons (.sel 3 (.var 0) (.var 4)) (.cons (.sel 4 (.var 2) (.var 4)) (.cons (.pk (.cons (.var 6) .nil)) (.cons (.pk (.cons (.var 5) .nil)) .nil))))))))
   (.lt (.app 56 (.cons (.sel 0 (.var 0) (.var 4)) (.cons (.sel 1 (.var 0) (.var 4)) (.cons (.sel 2 (.var 0) (.var 4)) (.cons (.sel 3 (.var 0) (.var 4)) (.cons (.sel 4 (.var 2) (.var 4)) (.cons (.pk (.cons (.var 6) .nil)) (.cons (.pk (.cons (.var 5) .nil)) .nil))))))) 0) 1
   (.ite (.un .not (.var 7))
    (.ret (.cons (.n 0) (.cons (.t false) (.cons (.var 4) .nil))))
    (.ret (.cons (.n (-1)) (.cons (.var 1) (.cons (.bin (.add .i64) (.var 4) (.n 1)) .nil))))))))))
   (.ret (.cons (.n 1) (.cons (.var 1) (.cons (.var 4) .nil)))))
theorem le30_0 : (loopVT Try.prog (sgOf sg30) (ltOf lt30) L30_0 lb30_0).slim L30_0.nv [] = rt30_0 := by kernel_rfl
theorem lf30_0 : (firstRegion lb30_0).bind (ltOf lt30) = some L30_0 := by kernel_rfl
theorem lk30_0 : (Code.loops lb30_0).length = 0 := by kernel_rfl
def rt30_1 : VT :=
  (.ite (.bin .lt (.var 3) (.var 2))
   (.need (.t true) (.c (.bin .le (.n 0) (.var 3)))
   (.need (.t true) (.c (.bin .lt (.var 3) (.un .len (.var 1))))
   (.need (.t true) (.c (.bin .lt (.var 3) (.un .len (.var 5))))
   (.need (.t true) (.pre 56 (.cons (.sel 0 (.var 5) (.var 3)) (.cons (.sel 1 (.var 5) (.var 3)) (.cons (.sel 2 (.var 5) (.var 3)) (.cons (.sel 3 (.var 5) (.var 3)) (.cons (.sel 1 (.var 1) (.var 3)) (.cons (.pk (.cons (.var 5) .nil)) (.cons (.pk (.cons (.var 4) .nil)) .nil))))))))
   (.lt (.app 56 (.cons (.sel 0 (.var 5) (.var 3)) (.cons (.sel 1 (.var 5) (.var 3)) (.cons (.sel 2 (.var 5) (.var 3)) (.cons (.sel 3 (.var 5) (.var 3)) (.cons (.sel 1 (.var 1) (.var 3)) (.cons (.pk (.cons (.var 5) .nil)) (.cons (.pk (.cons (.var 4) .nil)) .nil))))))) 0) 1
   (.ite (.un .not (.var 6))
    (.ret (.cons (.n 0) (.cons (.t false) (.cons (.var 3) .nil))))
    (.ret (.cons (.n (-1)) (.cons (.var 0) (.cons (.bin (.add .i64) (.var 3) (.n 1)) .nil))))))))))
   (.ret (.cons (.n 1) (.cons (.var 0) (.cons (.var 3) .nil)))))
theorem le30_1 : (loopVT Try.prog (sgOf sg30) (ltOf lt30) L30_1 lb30_1).slim L30_1.nv [] = rt30_1 := by kernel_rfl
theorem lf30_1 : (firstRegion lb30_1).bind (ltOf lt30) = some L30_1 := by kernel_rfl
theorem lk30_1 : (Code.loops lb30_1).length = 0 := by kernel_rfl
def vt30 : VT :=
  (.need (.t true) (.pre 13000 (.cons (.var 6) (.cons (.t false) (.cons (.var 2) (.cons (.un .len (.var 2)) (.cons (.n 0) (.cons (.var 5) (.cons (.var 7) .nil))))))))
  (.lt (.app 13000 (.cons (.var 6) (.cons (.t false) (.cons (.var 2) (.cons (.un .len (.var 2)) (.cons (.n 0) (.cons (.var 5) (.cons (.var 7) .nil))))))) 0) 3
  (.ite (.bin .eq (.var 8) (.n 0))
   (.ret (.cons (.var 9) .nil))
   (.need (.t true) (.pre 13001 (.cons (.var 9) (.cons (.var 4) (.cons (.un .len (.var 4)) (.cons (.n 0) (.cons (.var 5) (.cons (.var 7) .nil)))))))
   (.lt (.app 13001 (.cons (.var 9) (.cons (.var 4) (.cons (.un .len (.var 4)) (.cons (.n 0) (.cons (.var 5) (.cons (.var 7) .nil)))))) 0) 3
   (.ite (.bin .eq (.var 11) (.n 0))
    (.ret (.cons (.var 12) .nil))
    (.ret (.cons (.t true) .nil))))))))
theorem e30 : (fnVT Try.prog (sgOf sg30) (ltOf lt30) S30 Try.f30 c30).slim (S30.ps.map fun p => p.2.length).sum [] = vt30 := by kernel_rfl
def S59 : Sig := ⟨[(true, [i6, i6, i6, i6]), (false, [(.pt [i6, i6, i6, i6])])], [(false, [.bool])], [], none⟩
noncomputable def c59 : Code := Try.f59.body.getD .skip
theorem b59 : Try.f59.body = some c59 := body_some (by kernel_rfl)
theorem n59 : (Try.f59.name == "runtime.NumGoroutine") = false := by kernel_rfl
def sg59 : List (FuncId × Sig) := [(18, S18)]
def lt59 : List (Nat × LoopSig) := []
theorem k59 : (Code.loops c59).length = 0 := by kernel_rfl
def vt59 : VT :=
  (.need (.t true) (.pre 18 (.cons (.var 0) (.cons (.var 1) (.cons (.var 2) (.cons (.var 3) (.cons (.psel 0 (.var 4)) (.cons (.psel 1 (.var 4)) (.cons (.psel 2 (.var 4)) (.cons (.psel 3 (.var 4)) .nil)))))))))
  (.lt (.app 18 (.cons (.var 0) (.cons (.var 1) (.cons (.var 2) (.cons (.var 3) (.cons (.psel 0 (.var 4)) (.cons (.psel 1 (.var 4)) (.cons (.psel 2 (.var 4)) (.cons (.psel 3 (.var 4)) .nil)))))))) 0) 1
  (.ret (.cons (.var 5) .nil))))
theorem e59 : (fnVT Try.prog (sgOf sg59) (ltOf lt59) S59 Try.f59 c59).slim (S59.ps.map fun p => p.2.length).sum [] = vt59 := by kernel_rfl
def T59 : FuncId → List D → List D := tabOf [(18, fn18)]
def fn59 (ρ : List D) : List D := vt59.val T59 ρ
theorem m59 : Meets Try.prog 59 S59 (fun _ => True) fn59 := meets_easy (sgl := sg59) (Φ := T59) mixed (List.forall_mem_cons.2 ⟨m18, (fun _ h => nomatch h)⟩) Try.func59 b59 n59 k59 e59 (by kernel_rfl)
def S90 : Sig := ⟨[(false, [(.sl 3 [i6])]), (false, [i6])], [(false, [i6])], [], none⟩
noncomputable def c90 : Code := Try.f90.body.getD .skip
theorem b90 : Try.f90.body = some c90 := body_some (by kernel_rfl)
theorem n90 : (Try.f90.name == "runtime.NumGoroutine") = false := by kernel_rfl
def sg90 : List (FuncId × Sig) := []
def L90_0 : LoopSig := ⟨19000, [],
   ⟨[(.c (.x (.sl 3 [i6]) (.var 0))), (.c (.x i6 (.var 1))), .any, .any, (.c (.x i6 (.var 2))), .any, .any, (.c (.x i6 (.var 3))), (.c (.x i6 (.var 4))), .any, .any, .any, .any, .any, .any, .any, .any, .any, .any],
    []⟩,
   5, [2, 4], [9, 10, 5, 11, 12, 13, 14, 15, 16, 17, 4, 18, 8], [.ret, (.exit 0)], []⟩
def lt90 : List (Nat × LoopSig) := [(2, L90_0)]
theorem k90 : (Code.loops c90).length = 1 := by kernel_rfl
noncomputable def lb90_0 : Code := (Code.loops c90).getD 0 .skip
def rt90_0 : VT :=
  (.ite (.bin .lt (.var 4) (.var 3))
   (.need (.t true) (.c (.bin .le (.n 0) (.var 4)))
   (.need (.t true) (.c (.bin .lt (.var 4) (.un .len (.var 0))))
   (.ite (.bin .eq (.var 1) (.sel 0 (.var 0) (.var 4)))
    (.ret (.cons (.n 0) (.cons (.var 4) (.cons (.var 4) .nil))))
    (.ret (.cons (.n (-1)) (.cons (.var 2) (.cons (.bin (.add .i64) (.var 4) (.n 1)) .nil)))))))
   (.ret (.cons (.n 1) (.cons (.var 2) (.cons (.var 4) .nil)))))
theorem le90_0 : (loopVT Try.prog (sgOf sg90) (ltOf lt90) L90_0 lb90_0).slim L90_0.nv [] = rt90_0 := by kernel_rfl
theorem lf90_0 : (firstRegion lb90_0).bind (ltOf lt90) = some L90_0 := by kernel_rfl
theorem lk90_0 : (Code.loops lb90_0).length = 0 := by kernel_rfl
def vt90 : VT :=
  (.need (.t true) (.pre 19000 (.cons (.var 0) (.cons (.var 1) (.cons (.n 0) (.cons (.un .len (.var 0)) (.cons (.n 0) .nil))))))
  (.lt (.app 19000 (.cons (.var 0) (.cons (.var 1) (.cons (.n 0) (.cons (.un .len (.var 0)) (.cons (.n 0) .nil))))) 0) 3
  (.ite (.bin .eq (.var 2) (.n 0))
   (.ret (.cons (.var 3) .nil))
   (.ret (.cons (.n (-1)) .nil)))))
theorem e90 : (fnVT Try.prog (sgOf sg90) (ltOf lt90) S90 Try.f90 c90).slim (S90.ps.map fun p => p.2.length).sum [] = vt90 := by kernel_rfl
def S61 : Sig := ⟨[(false, [(.sl 3 [i6])]), (false, [i6])], [(false, [.bool])], [], none⟩
noncomputable def c61 : Code := Try.f61.body.getD .skip
theorem b61 : Try.f61.body = some c61 := body_some (by kernel_rfl)
theorem n61 : (Try.f61.name == "runtime.NumGoroutine") = false := by kernel_rfl
def sg61 : List (FuncId × Sig) := [(90, S90)]
def lt61 : List (Nat × LoopSig) := []
theorem k61 : (Code.loops c61).length = 0 := by kernel_rfl
def vt61 : VT :=
  (.need (.t true) (.pre 90 (.cons (.var 0) (.cons (.var 1) .nil)))
  (.lt (.app 90 (.cons (.var 0) (.cons (.var 1) .nil)) 0) 1
  (.ret (.cons (.bin .le (.n 0) (.var 2)) .nil))))
theorem e61 : (fnVT Try.prog (sgOf sg61) (ltOf lt61) S61 Try.f61 c61).slim (S61.ps.map fun p => p.2.length).sum [] = vt61 := by kernel_rfl
def S60 : Sig := ⟨[(true, [.str, .bool, (.sl 38 [.str, .str, i6, i6, i6, (.sl 53 [.str, i6])]), (.sl 55 [i6, i6, i6, i6, .str, i6, i6]), (.sl 50 [.str, i6])]), (false, [i6])], [(false, [(.sl 3 [i6])])], [], none⟩
noncomputable def c60 : Code := Try.f60.body.getD .skip
theorem b60 : Try.f60.body = some c60 := body_some (by kernel_rfl)
theorem n60 : (Try.f60.name == "runtime.NumGoroutine") = false := by kernel_rfl
def sg60 : List (FuncId × Sig) := [(26, S26), (89, S89), (61, S61)]
def L60_0 : LoopSig := ⟨16000, [(5, none, 3)],
   ⟨[.any, (.c (.x i6 (.var 0))), (.c (.ptr 0 0)), .any, .any, (.c (.row 1 1)), .any, .any, .any, .any, .any, .any, .any, .any, .any, .any, .any, .any, .any, .any, .any, .any, .any, (.c (.x (.sl 38 [.str, .str, i6, i6, i6, (.sl 53 [.str, i6])]) (.var 1))), (.c (.x i6 (.var 2))), (.c (.x i6 (.var 3))), .any, .any, .any, .any, .any, .any, .any, .any, .any, .any, .any, .any, .any, .any, .any, .any, .any, .any, .any, .any],
    [some ⟨(.t true), (.box 26 [(.x .str (.var 4)), (.x .bool (.var 5)), (.x (.sl 38 [.str, .str, i6, i6, i6, (.sl 53 [.str, i6])]) (.var 6)), (.x (.sl 55 [i6, i6, i6, i6, .str, i6, i6]) (.var 7)), (.x (.sl 50 [.str, i6]) (.var 8))] false)⟩, some ⟨(.t true), (.row 3 [i6] (.var 9) 1 false)⟩]⟩,
   10, [3, 9], [26, 27, 28, 29, 7, 6, 30, 31, 32, 33, 34, 35, 36, 37, 38, 39, 40, 41, 42, 43, 5, 44, 25], [(.exit 0)], [9]⟩
def lt60 : List (Nat × LoopSig) := [(5, L60_0)]
theorem k60 : (Code.loops c60).length = 1 := by kernel_rfl
noncomputable def lb60_0 : Code := (Code.loops c60).getD 0 .skip
def rt60_0 : VT :=
  (.ite (.bin .lt (.var 3) (.var 2))
   (.need (.t true) (.c (.bin .le (.n 0) (.var 3)))
   (.need (.t true) (.c (.bin .lt (.var 3) (.un .len (.var 1))))
   (.need (.un .not (.bin .lt (.var 0) (.n 0))) (.pre 89 (.cons (.var 4) (.cons (.var 5) (.cons (.var 6) (.cons (.var 7) (.cons (.var 8) (.cons (.sel 4 (.var 1) (.var 3)) .nil)))))))
   (.lt (.app 89 (.cons (.var 4) (.cons (.var 5) (.cons (.var 6) (.cons (.var 7) (.cons (.var 8) (.cons (.sel 4 (.var 1) (.var 3)) .nil)))))) 0) 1
   (.need (.un .not (.bin .lt (.var 0) (.n 0))) (.pre 61 (.cons (.var 10) (.cons (.var 0) .nil)))
   (.lt (.app 61 (.cons (.var 10) (.cons (.var 0) .nil)) 0) 1
   (.ite (.ite (.bin .lt (.var 0) (.n 0)) (.t true) (.var 11))
    (.need (.t true) (.c (.bin .le (.un .len (.bin .cat (.var 9) (.lcons (.cons (.var 3) .nil) .lnil))) (.n 17592186044416)))
    (.ret (.cons (.n (-1)) (.cons (.bin (.add .i64) (.var 3) (.n 1)) (.cons (.bin .cat (.var 9) (.lcons (.cons (.var 3) .nil) .lnil)) .nil)))))
    (.ret (.cons (.n (-1)) (.cons (.bin (.add .i64) (.var 3) (.n 1)) (.cons (.var 9) .nil)))))))))))
   (.ret (.cons (.n 0) (.cons (.var 3) (.cons (.var 9) .nil)))))
theorem le60_0 : (loopVT Try.prog (sgOf sg60) (ltOf lt60) L60_0 lb60_0).slim L60_0.nv [] = rt60_0 := by kernel_rfl
theorem lf60_0 : (firstRegion lb60_0).bind (ltOf lt60) = some L60_0 := by kernel_rfl
theorem lk60_0 : (Code.loops lb60_0).length = 0 := by kernel_rfl
def vt60 : VT :=
  (.need (.t true) (.pre 26 (.cons (.var 0) (.cons (.var 1) (.cons (.var 2) (.cons (.var 3) (.cons (.var 4) .nil))))))
  (.lt (.app 26 (.cons (.var 0) (.cons (.var 1) (.cons (.var 2) (.cons (.var 3) (.cons (.var 4) .nil))))) 0) 1
  (.ite (.ite (.ite (.un .not (.bin .eq (.var 6) (.n 0))) (.t true) (.bin .lt (.var 5) (.n (-1)))) (.t true) (.bin .le (.un .len (.var 4)) (.var 5)))
   (.ret (.cons .lnil .nil))
   (.need (.t true) (.pre 16000 (.cons (.var 5) (.cons (.var 2) (.cons (.un .len (.var 2)) (.cons (.n 0) (.cons (.var 0) (.cons (.var 1) (.cons (.var 2) (.cons (.var 3) (.cons (.var 4) (.cons .lnil .nil)))))))))))
   (.lt (.app 16000 (.cons (.var 5) (.cons (.var 2) (.cons (.un .len (.var 2)) (.cons (.n 0) (.cons (.var 0) (.cons (.var 1) (.cons (.var 2) (.cons (.var 3) (.cons (.var 4) (.cons .lnil .nil)))))))))) 0) 3
   (.ret (.cons (.var 9) .nil)))))))
theorem e60 : (fnVT Try.prog (sgOf sg60) (ltOf lt60) S60 Try.f60 c60).slim (S60.ps.map fun p => p.2.length).sum [] = vt60 := by kernel_rfl
def S62 : Sig := ⟨[(true, [.str, .bool, (.sl 38 [.str, .str, i6, i6, i6, (.sl 53 [.str, i6])]), (.sl 55 [i6, i6, i6, i6, .str, i6, i6]), (.sl 50 [.str, i6])]), (false, [i6]), (false, [i6])], [(false, [.bool])], [], none⟩
noncomputable def c62 : Code := Try.f62.body.getD .skip
theorem b62 : Try.f62.body = some c62 := body_some (by kernel_rfl)
theorem n62 : (Try.f62.name == "runtime.NumGoroutine") = false := by kernel_rfl
def sg62 : List (FuncId × Sig) := []
def L62_0 : LoopSig := ⟨16200, [],
   ⟨[.any, (.c (.x i6 (.var 0))), .any, (.c (.ptr 0 0)), .any, .any, (.c (.x .bool (.var 1))), (.c (.x i6 (.var 2))), .any, .any, .any, .any, .any, .any, .any, .any, .any, .any, .any, .any, .any, .any, .any, .any, .any],
    [some ⟨(.t true), (.box 26 [(.x .str (.var 3)), (.x .bool (.var 4)), (.x (.sl 38 [.str, .str, i6, i6, i6, (.sl 53 [.str, i6])]) (.var 5)), (.x (.sl 55 [i6, i6, i6, i6, .str, i6, i6]) (.var 6)), (.x (.sl 50 [.str, i6]) (.var 7))] false)⟩]⟩,
   8, [1, 2], [14, 15, 22, 23, 24, 6, 16, 17, 18, 19, 20, 21, 7], [.ret, (.exit 0)], []⟩
def lt62 : List (Nat × LoopSig) := [(2, L62_0)]
theorem k62 : (Code.loops c62).length = 1 := by kernel_rfl
noncomputable def lb62_0 : Code := (Code.loops c62).getD 0 .skip
def rt62_0 : VT :=
  (.ite (.bin .le (.n 0) (.var 2))
   (.ite (.bin .eq (.var 2) (.var 0))
    (.ret (.cons (.n 0) (.cons (.t true) (.cons (.var 2) .nil))))
    (.need (.t true) (.c (.bin .lt (.var 2) (.un .len (.var 7))))
    (.ret (.cons (.n (-1)) (.cons (.var 1) (.cons (.sel 1 (.var 7) (.var 2)) .nil))))))
   (.ret (.cons (.n 1) (.cons (.var 1) (.cons (.var 2) .nil)))))
theorem le62_0 : (loopVT Try.prog (sgOf sg62) (ltOf lt62) L62_0 lb62_0).slim L62_0.nv [] = rt62_0 := by kernel_rfl
theorem lf62_0 : (firstRegion lb62_0).bind (ltOf lt62) = some L62_0 := by kernel_rfl
theorem lk62_0 : (Code.loops lb62_0).length = 0 := by kernel_rfl
def vt62 : VT :=
  (.need (.t true) (.c (.bin .le (.n 0) (.var 6)))
  (.need (.t true) (.c (.bin .lt (.var 6) (.un .len (.var 4))))
  (.need (.t true) (.pre 16200 (.cons (.var 5) (.cons (.t false) (.cons (.sel 1 (.var 4) (.var 6)) (.cons (.var 0) (.cons (.var 1) (.cons (.var 2) (.cons (.var 3) (.cons (.var 4) .nil)))))))))
  (.lt (.app 16200 (.cons (.var 5) (.cons (.t false) (.cons (.sel 1 (.var 4) (.var 6)) (.cons (.var 0) (.cons (.var 1) (.cons (.var 2) (.cons (.var 3) (.cons (.var 4) .nil)))))))) 0) 3
  (.ite (.bin .eq (.var 7) (.n 0))
   (.ret (.cons (.var 8) .nil))
   (.ret (.cons (.t false) .nil)))))))
theorem e62 : (fnVT Try.prog (sgOf sg62) (ltOf lt62) S62 Try.f62 c62).slim (S62.ps.map fun p => p.2.length).sum [] = vt62 := by kernel_rfl
def S31 : Sig := ⟨[(true, [.str, .bool, (.sl 38 [.str, .str, i6, i6, i6, (.sl 53 [.str, i6])]), (.sl 55 [i6, i6, i6, i6, .str, i6, i6]), (.sl 50 [.str, i6])]), (false, [(.sl 40 [i6, i6, i6, i6])]), (false, [(.sl 40 [i6, i6, i6, i6])])], [(false, [.bool])], [], none⟩
noncomputable def c31 : Code := Try.f31.body.getD .skip
theorem b31 : Try.f31.body = some c31 := body_some (by kernel_rfl)
theorem n31 : (Try.f31.name == "runtime.NumGoroutine") = false := by kernel_rfl
def sg31 : List (FuncId × Sig) := [(25, S25), (60, S60), (61, S61), (18, S18), (62, S62)]
def L31_0 : LoopSig := ⟨13100, [],
   ⟨[.any, (.c (.x (.sl 40 [i6, i6, i6, i6]) (.var 0))), .any, .any, .any, .any, (.c (.x .bool (.var 1))), .any, .any, .any, .any, .any, .any, .any, .any, .any, (.c (.x (.sl 40 [i6, i6, i6, i6]) (.var 2))), (.c (.x i6 (.var 3))), (.c (.x i6 (.var 4))), .any, .any, .any, .any, .any, .any, .any, .any, .any, .any, .any, .any, .any, .any, .any, .any, .any, .any, .any, .any, .any, .any, .any, .any, .any, .any, .any, .any, .any, .any, .any, .any, .any, .any, .any, .any, .any, .any, .any, .any, .any, .any, .any, .any, .any, .any, .any, .any, .any, .any, .any, .any, .any, .any, .any, .any, .any, .any, .any, .any, .any, .any, .any, .any, .any],
    []⟩,
   5, [1, 4], [19, 20, 21, 22, 8, 7, 23, 24, 25, 26, 27, 6, 28, 18], [.ret, (.exit 0)], []⟩
def L31_1 : LoopSig := ⟨13103, [],
   ⟨[.any, (.c (.x (.sl 40 [i6, i6, i6, i6]) (.var 0))), (.c (.x (.sl 40 [i6, i6, i6, i6]) (.var 1))), (.c (.ptr 0 0)), .any, .any, (.c (.x .bool (.var 2))), .any, .any, .any, .any, .any, .any, .any, .any, .any, .any, .any, .any, .any, .any, .any, .any, .any, .any, .any, .any, .any, .any, (.c (.x (.sl 40 [i6, i6, i6, i6]) (.var 3))), (.c (.x i6 (.var 4))), (.c (.x i6 (.var 5))), .any, .any, .any, .any, .any, .any, .any, .any, .any, .any, .any, .any, .any, .any, .any, .any, .any, .any, .any, .any, .any, .any, .any, .any, .any, .any, .any, .any, .any, .any, .any, .any, .any, .any, .any, .any, .any, .any, .any, .any, .any, .any, .any, .any, .any, .any, .any, .any, .any, .any, .any, .any],
    [some ⟨(.t true), (.box 26 [(.x .str (.var 6)), (.x .bool (.var 7)), (.x (.sl 38 [.str, .str, i6, i6, i6, (.sl 53 [.str, i6])]) (.var 8)), (.x (.sl 55 [i6, i6, i6, i6, .str, i6, i6]) (.var 9)), (.x (.sl 50 [.str, i6]) (.var 10))] false)⟩]⟩,
   11, [2, 5], [32, 33, 34, 35, 10, 9, 36, 37, 38, 11, 39, 40, 41, 42, 43, 44, 45, 13, 12, 46, 47, 48, 49, 50, 51, 52, 53, 54, 6, 55, 56, 57, 58, 59, 60, 61, 62, 63, 64, 15, 14, 65, 66, 67, 68, 69, 70, 71, 72, 73, 74, 75, 76, 77, 78, 79, 80, 81, 82, 83, 31], [.ret, (.exit 2)], []⟩
def L31_2 : LoopSig := ⟨13101, [],
   ⟨[.any, .any, .any, .any, .any, .any, (.c (.x .bool (.var 0))), .any, .any, .any, (.c (.ptr 1 0)), (.c (.x (.sl 3 [i6]) (.var 1))), .any, .any, .any, .any, .any, .any, .any, .any, .any, .any, .any, .any, .any, .any, .any, .any, .any, .any, .any, .any, .any, .any, .any, .any, .any, .any, .any, (.c (.x (.sl 40 [i6, i6, i6, i6]) (.var 2))), (.c (.x i6 (.var 3))), (.c (.x i6 (.var 4))), .any, .any, .any, .any, .any, .any, .any, .any, .any, .any, .any, .any, .any, .any, .any, .any, .any, .any, .any, .any, .any, .any, .any, .any, .any, .any, .any, .any, .any, .any, .any, .any, .any, .any, .any, .any, .any, .any, .any, .any, .any, .any],
    [none, some ⟨(.t true), (.box 40 [(.x i6 (.var 5)), (.x i6 (.var 6)), (.x i6 (.var 7)), (.x i6 (.var 8))] false)⟩]⟩,
   9, [0, 4], [42, 43, 44, 45, 13, 12, 46, 47, 48, 49, 50, 51, 52, 53, 54, 6, 55, 41], [.ret, (.exit 4)], []⟩
def L31_3 : LoopSig := ⟨13102, [],
   ⟨[.any, .any, .any, (.c (.ptr 0 0)), .any, .any, (.c (.x .bool (.var 0))), .any, .any, (.c (.x i6 (.var 1))), (.c (.ptr 1 0)), .any, .any, .any, .any, .any, .any, .any, .any, .any, .any, .any, .any, .any, .any, .any, .any, .any, .any, .any, .any, .any, .any, .any, .any, .any, .any, .any, .any, .any, .any, .any, .any, .any, .any, .any, .any, .any, .any, .any, .any, .any, .any, .any, .any, .any, .any, .any, (.c (.x (.sl 40 [i6, i6, i6, i6]) (.var 2))), (.c (.x i6 (.var 3))), (.c (.x i6 (.var 4))), .any, .any, .any, .any, .any, .any, .any, .any, .any, .any, .any, .any, .any, .any, .any, .any, .any, .any, .any, .any, .any, .any, .any],
    [some ⟨(.t true), (.box 26 [(.x .str (.var 5)), (.x .bool (.var 6)), (.x (.sl 38 [.str, .str, i6, i6, i6, (.sl 53 [.str, i6])]) (.var 7)), (.x (.sl 55 [i6, i6, i6, i6, .str, i6, i6]) (.var 8)), (.x (.sl 50 [.str, i6]) (.var 9))] false)⟩, some ⟨(.t true), (.box 40 [(.x i6 (.var 10)), (.x i6 (.var 11)), (.x i6 (.var 12)), (.x i6 (.var 13))] false)⟩]⟩,
   14, [0, 4], [61, 62, 63, 64, 15, 14, 65, 66, 67, 68, 69, 70, 71, 72, 73, 74, 75, 76, 77, 78, 79, 80, 81, 6, 82, 60], [.ret, (.exit 6)], []⟩
def lt31 : List (Nat × LoopSig) := [(2, L31_0), (8, L31_1), (12, L31_2), (18, L31_3)]
theorem k31 : (Code.loops c31).length = 4 := by kernel_rfl
noncomputable def lb31_0 : Code := (Code.loops c31).getD 0 .skip
noncomputable def lb31_1 : Code := (Code.loops c31).getD 1 .skip
noncomputable def lb31_2 : Code := (Code.loops c31).getD 2 .skip
noncomputable def lb31_3 : Code := (Code.loops c31).getD 3 .skip
def rt31_0 : VT :=
  (.ite (.bin .lt (.var 4) (.var 3))
   (.need (.t true) (.c (.bin .le (.n 0) (.var 4)))
   (.need (.t true) (.c (.bin .lt (.var 4) (.un .len (.var 2))))
   (.need (.t true) (.c (.bin .le (.var 4) (.un .len (.var 0))))
   (.need (.t true) (.pre 25 (.cons (.sub (.var 0) (.n 0) (.var 4)) (.cons (.clo 59 [(.pt [i6, i6, i6, i6])] (.cons (.pk (.cons (.sel 0 (.var 2) (.var 4)) (.cons (.sel 1 (.var 2) (.var 4)) (.cons (.sel 2 (.var 2) (.var 4)) (.cons (.sel 3 (.var 2) (.var 4)) .nil))))) .nil)) .nil)))
   (.lt (.app 25 (.cons (.sub (.var 0) (.n 0) (.var 4)) (.cons (.clo 59 [(.pt [i6, i6, i6, i6])] (.cons (.pk (.cons (.sel 0 (.var 2) (.var 4)) (.cons (.sel 1 (.var 2) (.var 4)) (.cons (.sel 2 (.var 2) (.var 4)) (.cons (.sel 3 (.var 2) (.var 4)) .nil))))) .nil)) .nil)) 0) 1
   (.ite (.var 5)
    (.ret (.cons (.n 0) (.cons (.t false) (.cons (.var 4) .nil))))
    (.ret (.cons (.n (-1)) (.cons (.var 1) (.cons (.bin (.add .i64) (.var 4) (.n 1)) .nil))))))))))
   (.ret (.cons (.n 1) (.cons (.var 1) (.cons (.var 4) .nil)))))
theorem le31_0 : (loopVT Try.prog (sgOf sg31) (ltOf lt31) L31_0 lb31_0).slim L31_0.nv [] = rt31_0 := by kernel_rfl
theorem lf31_0 : (firstRegion lb31_0).bind (ltOf lt31) = some L31_0 := by kernel_rfl
theorem lk31_0 : (Code.loops lb31_0).length = 0 := by kernel_rfl
def rt31_1 : VT :=
  (.ite (.bin .lt (.var 5) (.var 4))
   (.need (.t true) (.c (.bin .le (.n 0) (.var 5)))
   (.need (.t true) (.c (.bin .lt (.var 5) (.un .len (.var 3))))
   (.need (.t true) (.pre 60 (.cons (.var 6) (.cons (.var 7) (.cons (.var 8) (.cons (.var 9) (.cons (.var 10) (.cons (.var 5) .nil)))))))
   (.lt (.app 60 (.cons (.var 6) (.cons (.var 7) (.cons (.var 8) (.cons (.var 9) (.cons (.var 10) (.cons (.var 5) .nil)))))) 0) 1
   (.need (.t true) (.pre 13101 (.cons (.var 2) (.cons (.var 11) (.cons (.var 0) (.cons (.un .len (.var 0)) (.cons (.n 0) (.cons (.sel 0 (.var 3) (.var 5)) (.cons (.sel 1 (.var 3) (.var 5)) (.cons (.sel 2 (.var 3) (.var 5)) (.cons (.sel 3 (.var 3) (.var 5)) .nil))))))))))
   (.lt (.app 13101 (.cons (.var 2) (.cons (.var 11) (.cons (.var 0) (.cons (.un .len (.var 0)) (.cons (.n 0) (.cons (.sel 0 (.var 3) (.var 5)) (.cons (.sel 1 (.var 3) (.var 5)) (.cons (.sel 2 (.var 3) (.var 5)) (.cons (.sel 3 (.var 3) (.var 5)) .nil))))))))) 0) 3
   (.ite (.bin .eq (.var 12) (.n 0))
    (.ret (.cons (.n 0) (.cons (.var 13) (.cons (.var 5) .nil))))
    (.need (.t true) (.c (.bin .le (.var 5) (.un .len (.var 1))))
    (.need (.t true) (.pre 13102 (.cons (.var 13) (.cons (.var 5) (.cons (.sub (.var 1) (.n 0) (.var 5)) (.cons (.un .len (.sub (.var 1) (.n 0) (.var 5))) (.cons (.n 0) (.cons (.var 6) (.cons (.var 7) (.cons (.var 8) (.cons (.var 9) (.cons (.var 10) (.cons (.sel 0 (.var 3) (.var 5)) (.cons (.sel 1 (.var 3) (.var 5)) (.cons (.sel 2 (.var 3) (.var 5)) (.cons (.sel 3 (.var 3) (.var 5)) .nil)))))))))))))))
    (.lt (.app 13102 (.cons (.var 13) (.cons (.var 5) (.cons (.sub (.var 1) (.n 0) (.var 5)) (.cons (.un .len (.sub (.var 1) (.n 0) (.var 5))) (.cons (.n 0) (.cons (.var 6) (.cons (.var 7) (.cons (.var 8) (.cons (.var 9) (.cons (.var 10) (.cons (.sel 0 (.var 3) (.var 5)) (.cons (.sel 1 (.var 3) (.var 5)) (.cons (.sel 2 (.var 3) (.var 5)) (.cons (.sel 3 (.var 3) (.var 5)) .nil)))))))))))))) 0) 3
    (.ite (.bin .eq (.var 15) (.n 0))
     (.ret (.cons (.n 0) (.cons (.var 16) (.cons (.var 5) .nil))))
     (.ret (.cons (.n (-1)) (.cons (.var 16) (.cons (.bin (.add .i64) (.var 5) (.n 1)) .nil)))))))))))))))
   (.ret (.cons (.n 1) (.cons (.var 2) (.cons (.var 5) .nil)))))
theorem le31_1 : (loopVT Try.prog (sgOf sg31) (ltOf lt31) L31_1 lb31_1).slim L31_1.nv [] = rt31_1 := by kernel_rfl
theorem lf31_1 : (firstRegion lb31_1).bind (ltOf lt31) = some L31_1 := by kernel_rfl
theorem lk31_1 : (Code.loops lb31_1).length = 2 := by kernel_rfl
theorem li31_1_0 : (Code.loops lb31_1).getD 0 .skip = lb31_2 := by kernel_rfl
theorem li31_1_1 : (Code.loops lb31_1).getD 1 .skip = lb31_3 := by kernel_rfl
def rt31_2 : VT :=
  (.ite (.bin .lt (.var 4) (.var 3))
   (.need (.t true) (.c (.bin .le (.n 0) (.var 4)))
   (.need (.t true) (.c (.bin .lt (.var 4) (.un .len (.var 2))))
   (.need (.t true) (.pre 61 (.cons (.var 1) (.cons (.var 4) .nil)))
   (.lt (.app 61 (.cons (.var 1) (.cons (.var 4) .nil)) 0) 1
   (.need (.un .not (.var 9)) (.pre 18 (.cons (.sel 0 (.var 2) (.var 4)) (.cons (.sel 1 (.var 2) (.var 4)) (.cons (.sel 2 (.var 2) (.var 4)) (.cons (.sel 3 (.var 2) (.var 4)) (.cons (.var 5) (.cons (.var 6) (.cons (.var 7) (.cons (.var 8) .nil)))))))))
   (.lt (.app 18 (.cons (.sel 0 (.var 2) (.var 4)) (.cons (.sel 1 (.var 2) (.var 4)) (.cons (.sel 2 (.var 2) (.var 4)) (.cons (.sel 3 (.var 2) (.var 4)) (.cons (.var 5) (.cons (.var 6) (.cons (.var 7) (.cons (.var 8) .nil)))))))) 0) 1
   (.ite (.ite (.un .not (.var 9)) (.var 10) (.t false))
    (.ret (.cons (.n 0) (.cons (.t false) (.cons (.var 4) .nil))))
    (.ret (.cons (.n (-1)) (.cons (.var 0) (.cons (.bin (.add .i64) (.var 4) (.n 1)) .nil)))))))))))
   (.ret (.cons (.n 1) (.cons (.var 0) (.cons (.var 4) .nil)))))
theorem le31_2 : (loopVT Try.prog (sgOf sg31) (ltOf lt31) L31_2 lb31_2).slim L31_2.nv [] = rt31_2 := by kernel_rfl
theorem lf31_2 : (firstRegion lb31_2).bind (ltOf lt31) = some L31_2 := by kernel_rfl
theorem lk31_2 : (Code.loops lb31_2).length = 0 := by kernel_rfl
def rt31_3 : VT :=
  (.ite (.bin .lt (.var 4) (.var 3))
   (.need (.t true) (.c (.bin .le (.n 0) (.var 4)))
   (.need (.t true) (.c (.bin .lt (.var 4) (.un .len (.var 2))))
   (.need (.t true) (.pre 62 (.cons (.var 5) (.cons (.var 6) (.cons (.var 7) (.cons (.var 8) (.cons (.var 9) (.cons (.var 4) (.cons (.var 1) .nil))))))))
   (.lt (.app 62 (.cons (.var 5) (.cons (.var 6) (.cons (.var 7) (.cons (.var 8) (.cons (.var 9) (.cons (.var 4) (.cons (.var 1) .nil))))))) 0) 1
   (.need (.un .not (.var 14)) (.pre 62 (.cons (.var 5) (.cons (.var 6) (.cons (.var 7) (.cons (.var 8) (.cons (.var 9) (.cons (.var 1) (.cons (.var 4) .nil))))))))
   (.lt (.app 62 (.cons (.var 5) (.cons (.var 6) (.cons (.var 7) (.cons (.var 8) (.cons (.var 9) (.cons (.var 1) (.cons (.var 4) .nil))))))) 0) 1
   (.need (.ite (.un .not (.var 14)) (.un .not (.var 15)) (.t false)) (.pre 18 (.cons (.sel 0 (.var 2) (.var 4)) (.cons (.sel 1 (.var 2) (.var 4)) (.cons (.sel 2 (.var 2) (.var 4)) (.cons (.sel 3 (.var 2) (.var 4)) (.cons (.var 10) (.cons (.var 11) (.cons (.var 12) (.cons (.var 13) .nil)))))))))
   (.lt (.app 18 (.cons (.sel 0 (.var 2) (.var 4)) (.cons (.sel 1 (.var 2) (.var 4)) (.cons (.sel 2 (.var 2) (.var 4)) (.cons (.sel 3 (.var 2) (.var 4)) (.cons (.var 10) (.cons (.var 11) (.cons (.var 12) (.cons (.var 13) .nil)))))))) 0) 1
   (.ite (.ite (.ite (.un .not (.var 14)) (.un .not (.var 15)) (.t false)) (.var 16) (.t false))
    (.ret (.cons (.n 0) (.cons (.t false) (.cons (.var 4) .nil))))
    (.ret (.cons (.n (-1)) (.cons (.var 0) (.cons (.bin (.add .i64) (.var 4) (.n 1)) .nil)))))))))))))
   (.ret (.cons (.n 1) (.cons (.var 0) (.cons (.var 4) .nil)))))
theorem le31_3 : (loopVT Try.prog (sgOf sg31) (ltOf lt31) L31_3 lb31_3).slim L31_3.nv [] = rt31_3 := by kernel_rfl
theorem lf31_3 : (firstRegion lb31_3).bind (ltOf lt31) = some L31_3 := by kernel_rfl
theorem lk31_3 : (Code.loops lb31_3).length = 0 := by kernel_rfl
def vt31 : VT :=
  (.need (.t true) (.pre 13100 (.cons (.var 5) (.cons (.t false) (.cons (.var 5) (.cons (.un .len (.var 5)) (.cons (.n 0) .nil))))))
  (.lt (.app 13100 (.cons (.var 5) (.cons (.t false) (.cons (.var 5) (.cons (.un .len (.var 5)) (.cons (.n 0) .nil))))) 0) 3
  (.ite (.bin .eq (.var 7) (.n 0))
   (.ret (.cons (.var 8) .nil))
   (.need (.t true) (.pre 13103 (.cons (.var 5) (.cons (.var 6) (.cons (.var 8) (.cons (.var 6) (.cons (.un .len (.var 6)) (.cons (.n 0) (.cons (.var 0) (.cons (.var 1) (.cons (.var 2) (.cons (.var 3) (.cons (.var 4) .nil))))))))))))
   (.lt (.app 13103 (.cons (.var 5) (.cons (.var 6) (.cons (.var 8) (.cons (.var 6) (.cons (.un .len (.var 6)) (.cons (.n 0) (.cons (.var 0) (.cons (.var 1) (.cons (.var 2) (.cons (.var 3) (.cons (.var 4) .nil))))))))))) 0) 3
   (.ite (.bin .eq (.var 10) (.n 0))
    (.ret (.cons (.var 11) .nil))
    (.ret (.cons (.t true) .nil))))))))
theorem e31 : (fnVT Try.prog (sgOf sg31) (ltOf lt31) S31 Try.f31 c31).slim (S31.ps.map fun p => p.2.length).sum [] = vt31 := by kernel_rfl
end Go.Proofs.Ytindllmeeckfcaa.rv
