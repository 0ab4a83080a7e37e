/-
  The functions of the program as they are run: printed by program.
-/
import Derived.Test.YthpppbfiiphgoaaChecked
import Derived.Test.YthpppbfiiphgoaaZSceneLayersH
namespace Go.Proofs.Ythpppbfiiphgoaa.rv
open Go.RV
set_option maxRecDepth 100000
abbrev i6 : CT := .int .i64
theorem mixed : Try.prog.follows .mixedOrders = true := by kernel_rfl
def S20006 : Sig := ⟨[(false, [.clo]), (false, [(.int .u8)])], [(false, [.bool])], [], none⟩
def S20059 : Sig := ⟨[(false, [.clo]), (true, [.str, .str, i6, i6, i6, (.sl 103 [.str, i6])])], [(false, [.bool])], [], none⟩
def S20053 : Sig := ⟨[(false, [.clo]), (true, [.str, i6])], [(false, [.bool])], [], none⟩
def S24004 : Sig := ⟨[(false, [.clo]), (false, [i6]), (false, [i6])], [(false, [i6])], [], none⟩
def S20104 : Sig := ⟨[(false, [.clo]), (true, [.str, i6])], [(false, [.bool])], [], none⟩
def S20061 : Sig := ⟨[(false, [.clo]), (true, [i6, i6])], [(false, [.bool])], [], none⟩
def S9 : Sig := ⟨[(true, [i6, i6, i6, i6, (.sl 50 [i6, i6, i6, i6, i6, i6, (.sl 60 [i6, i6]), .str])])], [(false, [.bool])], [], none⟩
noncomputable def c9 : Code := Try.f9.body.getD .skip
theorem b9 : Try.f9.body = some c9 := body_some (by kernel_rfl)
theorem n9 : (Try.f9.name == "runtime.NumGoroutine") = false := by kernel_rfl
def sg9 : List (FuncId × Sig) := []
def L9_0 : LoopSig := ⟨10900, [],
   ⟨[.any, (.c (.ptr 0 0)), (.c (.x .bool (.var 0))), (.c (.x i6 (.var 1))), (.c (.x i6 (.var 2))), .any, .any, .any, .any, .any, .any, .any, .any, .any, .any, .any, .any, .any, .any, .any, .any, .any, .any, .any, .any, .any, .any, .any, .any, .any, .any, .any, .any, .any, .any, .any, .any, .any, .any, .any, .any, .any, .any, .any, .any, .any, .any, .any],
    [some ⟨(.t true), (.box 26 [(.x i6 (.var 3)), (.x i6 (.var 4)), (.x i6 (.var 5)), (.x i6 (.var 6)), (.x (.sl 50 [i6, i6, i6, i6, i6, i6, (.sl 60 [i6, i6]), .str]) (.var 7))] false)⟩]⟩,
   8, [0, 1, 2], [9, 10, 11, 12, 13, 16, 17, 18, 19, 20, 21, 22, 23, 24, 25, 3, 26, 27, 28, 29, 30, 31, 32, 33, 34, 35, 36, 37, 38, 39, 40, 41, 42, 43, 44, 45, 46, 47, 2, 14, 15, 4], [.ret, (.exit 0)], []⟩
def lt9 : List (Nat × LoopSig) := [(5, L9_0)]
theorem k9 : (Code.loops c9).length = 1 := by kernel_rfl
noncomputable def lb9_0 : Code := (Code.loops c9).getD 0 .skip
def rt9_0 : VT :=
  (.ite (.bin .lt (.var 2) (.un .len (.var 7)))
   (.need (.t true) (.c (.bin .le (.n 0) (.var 2)))
   (.ite (.bin .lt (.n 0) (.un .len (.sel 6 (.var 7) (.var 2))))
    (.ite (.ite (.ite (.bin .lt (.n 60) (.bin (.add .i64) (.var 1) (.n 1))) (.t true) (.bin .lt (.n 600) (.un .len (.sel 6 (.var 7) (.var 2))))) (.t true) (.bin .lt (.n 200) (.un .slen (.sel 7 (.var 7) (.var 2)))))
     (.ret (.cons (.n 0) (.cons (.t false) (.cons (.bin (.add .i64) (.var 1) (.n 1)) (.cons (.var 2) .nil)))))
     (.ret (.cons (.n (-1)) (.cons (.var 0) (.cons (.bin (.add .i64) (.var 1) (.n 1)) (.cons (.bin (.add .i64) (.var 2) (.n 1)) .nil))))))
    (.ite (.ite (.ite (.bin .lt (.n 60) (.var 1)) (.t true) (.bin .lt (.n 600) (.un .len (.sel 6 (.var 7) (.var 2))))) (.t true) (.bin .lt (.n 200) (.un .slen (.sel 7 (.var 7) (.var 2)))))
     (.ret (.cons (.n 0) (.cons (.t false) (.cons (.var 1) (.cons (.var 2) .nil)))))
     (.ret (.cons (.n (-1)) (.cons (.var 0) (.cons (.var 1) (.cons (.bin (.add .i64) (.var 2) (.n 1)) .nil))))))))
   (.ret (.cons (.n 1) (.cons (.var 0) (.cons (.var 1) (.cons (.var 2) .nil))))))
theorem le9_0 : (loopVT Try.prog (sgOf sg9) (ltOf lt9) L9_0 lb9_0).slim L9_0.nv [] = rt9_0 := by kernel_rfl
theorem lf9_0 : (firstRegion lb9_0).bind (ltOf lt9) = some L9_0 := by kernel_rfl
theorem lk9_0 : (Code.loops lb9_0).length = 0 := by kernel_rfl
def vt9 : VT :=
  (.ite (.bin .lt (.n 2100) (.un .len (.var 4)))
   (.ret (.cons (.t false) .nil))
   (.need (.t true) (.pre 10900 (.cons (.t false) (.cons (.n 0) (.cons (.n 0) (.cons (.var 0) (.cons (.var 1) (.cons (.var 2) (.cons (.var 3) (.cons (.var 4) .nil)))))))))
   (.lt (.app 10900 (.cons (.t false) (.cons (.n 0) (.cons (.n 0) (.cons (.var 0) (.cons (.var 1) (.cons (.var 2) (.cons (.var 3) (.cons (.var 4) .nil)))))))) 0) 4
   (.ite (.bin .eq (.var 5) (.n 0))
    (.ret (.cons (.var 6) .nil))
    (.ret (.cons (.t true) .nil))))))
theorem e9 : (fnVT Try.prog (sgOf sg9) (ltOf lt9) S9 Try.f9 c9).slim (S9.ps.map fun p => p.2.length).sum [] = vt9 := by kernel_rfl
def S77 : Sig := ⟨[(false, [(.int .u8)])], [(false, [.bool])], [], none⟩
noncomputable def c77 : Code := Try.f77.body.getD .skip
theorem b77 : Try.f77.body = some c77 := body_some (by kernel_rfl)
theorem n77 : (Try.f77.name == "runtime.NumGoroutine") = false := by kernel_rfl
def sg77 : List (FuncId × Sig) := []
def lt77 : List (Nat × LoopSig) := []
theorem k77 : (Code.loops c77).length = 0 := by kernel_rfl
def vt77 : VT :=
  (.ret (.cons (.ite (.ite (.ite (.bin .le (.n 97) (.var 0)) (.bin .le (.var 0) (.n 122)) (.t false)) (.t true) (.ite (.bin .le (.n 65) (.var 0)) (.bin .le (.var 0) (.n 90)) (.t false))) (.t true) (.bin .eq (.var 0) (.n 95))) .nil))
theorem e77 : (fnVT Try.prog (sgOf sg77) (ltOf lt77) S77 Try.f77 c77).slim (S77.ps.map fun p => p.2.length).sum [] = vt77 := by kernel_rfl
def T77 : FuncId → List D → List D := tabOf []
def fn77 (ρ : List D) : List D := vt77.val T77 ρ
theorem m77 : Meets Try.prog 77 S77 (fun _ => True) fn77 := meets_easy (sgl := sg77) (Φ := T77) mixed ((fun _ h => nomatch h)) Try.func77 b77 n77 k77 e77 (by kernel_rfl)
def S78 : Sig := ⟨[(false, [(.int .u8)])], [(false, [.bool])], [], none⟩
noncomputable def c78 : Code := Try.f78.body.getD .skip
theorem b78 : Try.f78.body = some c78 := body_some (by kernel_rfl)
theorem n78 : (Try.f78.name == "runtime.NumGoroutine") = false := by kernel_rfl
def sg78 : List (FuncId × Sig) := []
def lt78 : List (Nat × LoopSig) := []
theorem k78 : (Code.loops c78).length = 0 := by kernel_rfl
def vt78 : VT :=
  (.ret (.cons (.ite (.bin .le (.n 48) (.var 0)) (.bin .le (.var 0) (.n 57)) (.t false)) .nil))
theorem e78 : (fnVT Try.prog (sgOf sg78) (ltOf lt78) S78 Try.f78 c78).slim (S78.ps.map fun p => p.2.length).sum [] = vt78 := by kernel_rfl
def T78 : FuncId → List D → List D := tabOf []
def fn78 (ρ : List D) : List D := vt78.val T78 ρ
theorem m78 : Meets Try.prog 78 S78 (fun _ => True) fn78 := meets_easy (sgl := sg78) (Φ := T78) mixed ((fun _ h => nomatch h)) Try.func78 b78 n78 k78 e78 (by kernel_rfl)
def S64 : Sig := ⟨[(false, [.str])], [(false, [i6])], [], none⟩
noncomputable def c64 : Code := Try.f64.body.getD .skip
theorem b64 : Try.f64.body = some c64 := body_some (by kernel_rfl)
theorem n64 : (Try.f64.name == "runtime.NumGoroutine") = false := by kernel_rfl
def sg64 : List (FuncId × Sig) := [(77, S77), (78, S78)]
def L64_0 : LoopSig := ⟨16400, [],
   ⟨[(.c (.x .str (.var 0))), .any, .any, (.c (.x i6 (.var 1))), .any, .any, .any, .any, .any, .any, .any, .any, .any, .any, .any, .any, .any, .any, .any, .any, .any, .any, .any, .any, .any, .any, .any],
    []⟩,
   2, [1], [4, 5, 6, 7, 8, 9, 10, 11, 12, 13, 14, 15, 16, 17, 18, 19, 20, 21, 22, 23, 24, 25, 3], [(.exit 0)], []⟩
def lt64 : List (Nat × LoopSig) := [(2, L64_0)]
theorem k64 : (Code.loops c64).length = 1 := by kernel_rfl
noncomputable def lb64_0 : Code := (Code.loops c64).getD 0 .skip
def rt64_0 : VT :=
  (.need (.bin .lt (.var 1) (.un .slen (.var 0))) (.c (.bin .le (.n 0) (.var 1)))
  (.need (.bin .lt (.var 1) (.un .slen (.var 0))) (.c (.bin .lt (.var 1) (.un .slen (.var 0))))
  (.need (.bin .lt (.var 1) (.un .slen (.var 0))) (.pre 77 (.cons (.bin .sidx (.var 0) (.var 1)) .nil))
  (.lt (.app 77 (.cons (.bin .sidx (.var 0) (.var 1)) .nil) 0) 1
  (.need (.ite (.ite (.bin .lt (.var 1) (.un .slen (.var 0))) (.un .not (.var 2)) (.t false)) (.bin .lt (.n 0) (.var 1)) (.t false)) (.c (.bin .le (.n 0) (.var 1)))
  (.need (.ite (.ite (.bin .lt (.var 1) (.un .slen (.var 0))) (.un .not (.var 2)) (.t false)) (.bin .lt (.n 0) (.var 1)) (.t false)) (.c (.bin .lt (.var 1) (.un .slen (.var 0))))
  (.need (.ite (.ite (.bin .lt (.var 1) (.un .slen (.var 0))) (.un .not (.var 2)) (.t false)) (.bin .lt (.n 0) (.var 1)) (.t false)) (.pre 78 (.cons (.bin .sidx (.var 0) (.var 1)) .nil))
  (.lt (.app 78 (.cons (.bin .sidx (.var 0) (.var 1)) .nil) 0) 1
  (.ite (.ite (.bin .lt (.var 1) (.un .slen (.var 0))) (.ite (.var 2) (.t true) (.ite (.bin .lt (.n 0) (.var 1)) (.var 3) (.t false))) (.t false))
   (.ret (.cons (.n (-1)) (.cons (.bin (.add .i64) (.var 1) (.n 1)) .nil)))
   (.ret (.cons (.n 0) (.cons (.var 1) .nil))))))))))))
theorem le64_0 : (loopVT Try.prog (sgOf sg64) (ltOf lt64) L64_0 lb64_0).slim L64_0.nv [] = rt64_0 := by kernel_rfl
theorem lf64_0 : (firstRegion lb64_0).bind (ltOf lt64) = some L64_0 := by kernel_rfl
theorem lk64_0 : (Code.loops lb64_0).length = 0 := by kernel_rfl
def vt64 : VT :=
  (.need (.t true) (.pre 16400 (.cons (.var 0) (.cons (.n 0) .nil)))
  (.lt (.app 16400 (.cons (.var 0) (.cons (.n 0) .nil)) 0) 2
  (.ret (.cons (.var 2) .nil))))
theorem e64 : (fnVT Try.prog (sgOf sg64) (ltOf lt64) S64 Try.f64 c64).slim (S64.ps.map fun p => p.2.length).sum [] = vt64 := by kernel_rfl
def S65 : Sig := ⟨[(false, [.str])], [(false, [.bool])], [], none⟩
noncomputable def c65 : Code := Try.f65.body.getD .skip
theorem b65 : Try.f65.body = some c65 := body_some (by kernel_rfl)
theorem n65 : (Try.f65.name == "runtime.NumGoroutine") = false := by kernel_rfl
def sg65 : List (FuncId × Sig) := []
def lt65 : List (Nat × LoopSig) := []
theorem k65 : (Code.loops c65).length = 0 := by kernel_rfl
def vt65 : VT :=
  (.ite (.bin .seq (.var 0) (.str ⟨#[100, 105, 103, 114, 97, 112, 104]⟩))
   (.ret (.cons (.t true) .nil))
   (.ite (.bin .seq (.var 0) (.str ⟨#[103, 114, 97, 112, 104]⟩))
    (.ret (.cons (.t true) .nil))
    (.ite (.bin .seq (.var 0) (.str ⟨#[110, 111, 100, 101]⟩))
     (.ret (.cons (.t true) .nil))
     (.ite (.bin .seq (.var 0) (.str ⟨#[101, 100, 103, 101]⟩))
      (.ret (.cons (.t true) .nil))
      (.ite (.bin .seq (.var 0) (.str ⟨#[115, 101, 116]⟩))
       (.ret (.cons (.t true) .nil))
       (.ite (.bin .seq (.var 0) (.str ⟨#[99, 108, 117, 115, 116, 101, 114]⟩))
        (.ret (.cons (.t true) .nil))
        (.ret (.cons (.t false) .nil))))))))
theorem e65 : (fnVT Try.prog (sgOf sg65) (ltOf lt65) S65 Try.f65 c65).slim (S65.ps.map fun p => p.2.length).sum [] = vt65 := by kernel_rfl
def T65 : FuncId → List D → List D := tabOf []
def fn65 (ρ : List D) : List D := vt65.val T65 ρ
theorem m65 : Meets Try.prog 65 S65 (fun _ => True) fn65 := meets_easy (sgl := sg65) (Φ := T65) mixed ((fun _ h => nomatch h)) Try.func65 b65 n65 k65 e65 (by kernel_rfl)
def S47 : Sig := ⟨[(false, [.str])], [(false, [.bool])], [], none⟩
noncomputable def c47 : Code := Try.f47.body.getD .skip
theorem b47 : Try.f47.body = some c47 := body_some (by kernel_rfl)
theorem n47 : (Try.f47.name == "runtime.NumGoroutine") = false := by kernel_rfl
def sg47 : List (FuncId × Sig) := [(64, S64), (65, S65)]
def lt47 : List (Nat × LoopSig) := []
theorem k47 : (Code.loops c47).length = 0 := by kernel_rfl
def vt47 : VT :=
  (.need (.ite (.un .not (.bin .seq (.var 0) (.str ⟨#[]⟩))) (.bin .le (.un .slen (.var 0)) (.n 16)) (.t false)) (.pre 64 (.cons (.var 0) .nil))
  (.lt (.app 64 (.cons (.var 0) .nil) 0) 1
  (.need (.ite (.ite (.un .not (.bin .seq (.var 0) (.str ⟨#[]⟩))) (.bin .le (.un .slen (.var 0)) (.n 16)) (.t false)) (.bin .eq (.var 1) (.un .slen (.var 0))) (.t false)) (.pre 65 (.cons (.var 0) .nil))
  (.lt (.app 65 (.cons (.var 0) .nil) 0) 1
  (.ret (.cons (.ite (.ite (.ite (.un .not (.bin .seq (.var 0) (.str ⟨#[]⟩))) (.bin .le (.un .slen (.var 0)) (.n 16)) (.t false)) (.bin .eq (.var 1) (.un .slen (.var 0))) (.t false)) (.un .not (.var 2)) (.t false)) .nil))))))
theorem e47 : (fnVT Try.prog (sgOf sg47) (ltOf lt47) S47 Try.f47 c47).slim (S47.ps.map fun p => p.2.length).sum [] = vt47 := by kernel_rfl
def S80 : Sig := ⟨[(true, [.str, .str, i6, i6, i6, (.sl 103 [.str, i6])]), (false, [(.pt [.str])])], [(false, [.bool])], [], none⟩
noncomputable def c80 : Code := Try.f80.body.getD .skip
theorem b80 : Try.f80.body = some c80 := body_some (by kernel_rfl)
theorem n80 : (Try.f80.name == "runtime.NumGoroutine") = false := by kernel_rfl
def sg80 : List (FuncId × Sig) := []
def lt80 : List (Nat × LoopSig) := []
theorem k80 : (Code.loops c80).length = 0 := by kernel_rfl
def vt80 : VT :=
  (.ret (.cons (.bin .seq (.var 0) (.psel 0 (.var 6))) .nil))
theorem e80 : (fnVT Try.prog (sgOf sg80) (ltOf lt80) S80 Try.f80 c80).slim (S80.ps.map fun p => p.2.length).sum [] = vt80 := by kernel_rfl
def T80 : FuncId → List D → List D := tabOf []
def fn80 (ρ : List D) : List D := vt80.val T80 ρ
theorem m80 : Meets Try.prog 80 S80 (fun _ => True) fn80 := meets_easy (sgl := sg80) (Φ := T80) mixed ((fun _ h => nomatch h)) Try.func80 b80 n80 k80 e80 (by kernel_rfl)
def S79 : Sig := ⟨[(false, [(.sl 58 [.str, .str, i6, i6, i6, (.sl 103 [.str, i6])])]), (false, [.clo])], [(false, [i6])], [], none⟩
noncomputable def c79 : Code := Try.f79.body.getD .skip
theorem b79 : Try.f79.body = some c79 := body_some (by kernel_rfl)
theorem n79 : (Try.f79.name == "runtime.NumGoroutine") = false := by kernel_rfl
def sg79 : List (FuncId × Sig) := [(20059, S20059)]
def L79_0 : LoopSig := ⟨17900, [],
   ⟨[(.c (.x (.sl 58 [.str, .str, i6, i6, i6, (.sl 103 [.str, i6])]) (.var 0))), (.c (.x .clo (.var 1))), .any, .any, (.c (.x i6 (.var 2))), .any, .any, (.c (.x i6 (.var 3))), (.c (.x i6 (.var 4))), .any, .any, .any, .any, .any, .any, .any, .any, .any, .any],
    []⟩,
   5, [2, 4], [9, 10, 5, 11, 12, 13, 14, 15, 16, 17, 4, 18, 8], [.ret, (.exit 0)], []⟩
def lt79 : List (Nat × LoopSig) := [(2, L79_0)]
theorem k79 : (Code.loops c79).length = 1 := by kernel_rfl
noncomputable def lb79_0 : Code := (Code.loops c79).getD 0 .skip
def rt79_0 : VT :=
  (.ite (.bin .lt (.var 4) (.var 3))
   (.need (.t true) (.c (.bin .le (.n 0) (.var 4)))
   (.need (.t true) (.c (.bin .lt (.var 4) (.un .len (.var 0))))
   (.need (.t true) (.pre 20059 (.cons (.var 1) (.cons (.sel 0 (.var 0) (.var 4)) (.cons (.sel 1 (.var 0) (.var 4)) (.cons (.sel 2 (.var 0) (.var 4)) (.cons (.sel 3 (.var 0) (.var 4)) (.cons (.sel 4 (.var 0) (.var 4)) (.cons (.sel 5 (.var 0) (.var 4)) .nil))))))))
   (.lt (.app 20059 (.cons (.var 1) (.cons (.sel 0 (.var 0) (.var 4)) (.cons (.sel 1 (.var 0) (.var 4)) (.cons (.sel 2 (.var 0) (.var 4)) (.cons (.sel 3 (.var 0) (.var 4)) (.cons (.sel 4 (.var 0) (.var 4)) (.cons (.sel 5 (.var 0) (.var 4)) .nil))))))) 0) 1
   (.ite (.var 5)
    (.ret (.cons (.n 0) (.cons (.var 4) (.cons (.var 4) .nil))))
    (.ret (.cons (.n (-1)) (.cons (.var 2) (.cons (.bin (.add .i64) (.var 4) (.n 1)) .nil)))))))))
   (.ret (.cons (.n 1) (.cons (.var 2) (.cons (.var 4) .nil)))))
theorem le79_0 : (loopVT Try.prog (sgOf sg79) (ltOf lt79) L79_0 lb79_0).slim L79_0.nv [] = rt79_0 := by kernel_rfl
theorem lf79_0 : (firstRegion lb79_0).bind (ltOf lt79) = some L79_0 := by kernel_rfl
theorem lk79_0 : (Code.loops lb79_0).length = 0 := by kernel_rfl
def vt79 : VT :=
  (.need (.t true) (.pre 17900 (.cons (.var 0) (.cons (.var 1) (.cons (.n 0) (.cons (.un .len (.var 0)) (.cons (.n 0) .nil))))))
  (.lt (.app 17900 (.cons (.var 0) (.cons (.var 1) (.cons (.n 0) (.cons (.un .len (.var 0)) (.cons (.n 0) .nil))))) 0) 3
  (.ite (.bin .eq (.var 2) (.n 0))
   (.ret (.cons (.var 3) .nil))
   (.ret (.cons (.n (-1)) .nil)))))
theorem e79 : (fnVT Try.prog (sgOf sg79) (ltOf lt79) S79 Try.f79 c79).slim (S79.ps.map fun p => p.2.length).sum [] = vt79 := by kernel_rfl
def S66 : Sig := ⟨[(true, [.str, .bool, (.sl 58 [.str, .str, i6, i6, i6, (.sl 103 [.str, i6])]), (.sl 75 [i6, i6, i6, i6, .str, i6, i6]), (.sl 52 [.str, i6])]), (false, [.str])], [(false, [i6])], [], none⟩
noncomputable def c66 : Code := Try.f66.body.getD .skip
theorem b66 : Try.f66.body = some c66 := body_some (by kernel_rfl)
theorem n66 : (Try.f66.name == "runtime.NumGoroutine") = false := by kernel_rfl
def sg66 : List (FuncId × Sig) := [(79, S79)]
def lt66 : List (Nat × LoopSig) := []
theorem k66 : (Code.loops c66).length = 0 := by kernel_rfl
def vt66 : VT :=
  (.need (.t true) (.pre 79 (.cons (.var 2) (.cons (.clo 80 [(.pt [.str])] (.cons (.pk (.cons (.var 5) .nil)) .nil)) .nil)))
  (.lt (.app 79 (.cons (.var 2) (.cons (.clo 80 [(.pt [.str])] (.cons (.pk (.cons (.var 5) .nil)) .nil)) .nil)) 0) 1
  (.ret (.cons (.var 6) .nil))))
theorem e66 : (fnVT Try.prog (sgOf sg66) (ltOf lt66) S66 Try.f66 c66).slim (S66.ps.map fun p => p.2.length).sum [] = vt66 := by kernel_rfl
def S67 : Sig := ⟨[(false, [.str])], [(false, [i6])], [], none⟩
noncomputable def c67 : Code := Try.f67.body.getD .skip
theorem b67 : Try.f67.body = some c67 := body_some (by kernel_rfl)
theorem n67 : (Try.f67.name == "runtime.NumGoroutine") = false := by kernel_rfl
def sg67 : List (FuncId × Sig) := []
def L67_0 : LoopSig := ⟨16700, [],
   ⟨[.any, .any, (.c (.x i6 (.var 0))), .any, .any, .any, .any, .any, .any, (.c (.x (.sl 5 [(.int .u8)]) (.var 1))), (.c (.x i6 (.var 2))), (.c (.x i6 (.var 3))), .any, .any, .any, .any, .any, .any, .any, .any, .any, .any],
    []⟩,
   4, [0, 3], [12, 13, 14, 4, 15, 16, 17, 18, 19, 20, 2, 21, 11], [.ret, (.exit 0)], []⟩
def lt67 : List (Nat × LoopSig) := [(4, L67_0)]
theorem k67 : (Code.loops c67).length = 1 := by kernel_rfl
noncomputable def lb67_0 : Code := (Code.loops c67).getD 0 .skip
def rt67_0 : VT :=
  (.ite (.bin .lt (.var 3) (.var 2))
   (.need (.t true) (.c (.bin .le (.n 0) (.var 3)))
   (.need (.t true) (.c (.bin .lt (.var 3) (.un .len (.var 1))))
   (.ite (.ite (.bin .lt (.sel 0 (.var 1) (.var 3)) (.n 32)) (.t true) (.bin .lt (.n 126) (.sel 0 (.var 1) (.var 3))))
    (.ret (.cons (.n 0) (.cons (.n 7) (.cons (.var 3) .nil))))
    (.ret (.cons (.n (-1)) (.cons (.var 0) (.cons (.bin (.add .i64) (.var 3) (.n 1)) .nil)))))))
   (.ret (.cons (.n 1) (.cons (.var 0) (.cons (.var 3) .nil)))))
theorem le67_0 : (loopVT Try.prog (sgOf sg67) (ltOf lt67) L67_0 lb67_0).slim L67_0.nv [] = rt67_0 := by kernel_rfl
theorem lf67_0 : (firstRegion lb67_0).bind (ltOf lt67) = some L67_0 := by kernel_rfl
theorem lk67_0 : (Code.loops lb67_0).length = 0 := by kernel_rfl
def vt67 : VT :=
  (.ite (.bin .lt (.n 32) (.un .slen (.var 0)))
   (.ret (.cons (.n 2) .nil))
   (.need (.t true) (.pre 16700 (.cons (.n 0) (.cons (.un .bytes (.var 0)) (.cons (.un .len (.un .bytes (.var 0))) (.cons (.n 0) .nil)))))
   (.lt (.app 16700 (.cons (.n 0) (.cons (.un .bytes (.var 0)) (.cons (.un .len (.un .bytes (.var 0))) (.cons (.n 0) .nil)))) 0) 3
   (.ite (.bin .eq (.var 1) (.n 0))
    (.ret (.cons (.var 2) .nil))
    (.ret (.cons (.n 0) .nil))))))
theorem e67 : (fnVT Try.prog (sgOf sg67) (ltOf lt67) S67 Try.f67 c67).slim (S67.ps.map fun p => p.2.length).sum [] = vt67 := by kernel_rfl
def S68 : Sig := ⟨[(false, [i6])], [(false, [.bool])], [], none⟩
noncomputable def c68 : Code := Try.f68.body.getD .skip
theorem b68 : Try.f68.body = some c68 := body_some (by kernel_rfl)
theorem n68 : (Try.f68.name == "runtime.NumGoroutine") = false := by kernel_rfl
def sg68 : List (FuncId × Sig) := []
def lt68 : List (Nat × LoopSig) := []
theorem k68 : (Code.loops c68).length = 0 := by kernel_rfl
def vt68 : VT :=
  (.ret (.cons (.ite (.bin .le (.n 1) (.var 0)) (.bin .le (.var 0) (.n 1048576)) (.t false)) .nil))
theorem e68 : (fnVT Try.prog (sgOf sg68) (ltOf lt68) S68 Try.f68 c68).slim (S68.ps.map fun p => p.2.length).sum [] = vt68 := by kernel_rfl
def T68 : FuncId → List D → List D := tabOf []
def fn68 (ρ : List D) : List D := vt68.val T68 ρ
theorem m68 : Meets Try.prog 68 S68 (fun _ => True) fn68 := meets_easy (sgl := sg68) (Φ := T68) mixed ((fun _ h => nomatch h)) Try.func68 b68 n68 k68 e68 (by kernel_rfl)
def S82 : Sig := ⟨[(true, [.str, i6]), (false, [(.pt [.str, i6])])], [(false, [.bool])], [], none⟩
noncomputable def c82 : Code := Try.f82.body.getD .skip
theorem b82 : Try.f82.body = some c82 := body_some (by kernel_rfl)
theorem n82 : (Try.f82.name == "runtime.NumGoroutine") = false := by kernel_rfl
def sg82 : List (FuncId × Sig) := []
def lt82 : List (Nat × LoopSig) := []
theorem k82 : (Code.loops c82).length = 0 := by kernel_rfl
def vt82 : VT :=
  (.ret (.cons (.bin .seq (.var 0) (.psel 0 (.var 2))) .nil))
theorem e82 : (fnVT Try.prog (sgOf sg82) (ltOf lt82) S82 Try.f82 c82).slim (S82.ps.map fun p => p.2.length).sum [] = vt82 := by kernel_rfl
def T82 : FuncId → List D → List D := tabOf []
def fn82 (ρ : List D) : List D := vt82.val T82 ρ
theorem m82 : Meets Try.prog 82 S82 (fun _ => True) fn82 := meets_easy (sgl := sg82) (Φ := T82) mixed ((fun _ h => nomatch h)) Try.func82 b82 n82 k82 e82 (by kernel_rfl)
def S87 : Sig := ⟨[(false, [(.sl 103 [.str, i6])]), (false, [.clo])], [(false, [i6])], [], none⟩
noncomputable def c87 : Code := Try.f87.body.getD .skip
theorem b87 : Try.f87.body = some c87 := body_some (by kernel_rfl)
theorem n87 : (Try.f87.name == "runtime.NumGoroutine") = false := by kernel_rfl
def sg87 : List (FuncId × Sig) := [(20104, S20104)]
def L87_0 : LoopSig := ⟨18700, [],
   ⟨[(.c (.x (.sl 103 [.str, i6]) (.var 0))), (.c (.x .clo (.var 1))), .any, .any, (.c (.x i6 (.var 2))), .any, .any, (.c (.x i6 (.var 3))), (.c (.x i6 (.var 4))), .any, .any, .any, .any, .any, .any, .any, .any, .any, .any],
    []⟩,
   5, [2, 4], [9, 10, 5, 11, 12, 13, 14, 15, 16, 17, 4, 18, 8], [.ret, (.exit 0)], []⟩
def lt87 : List (Nat × LoopSig) := [(2, L87_0)]
theorem k87 : (Code.loops c87).length = 1 := by kernel_rfl
noncomputable def lb87_0 : Code := (Code.loops c87).getD 0 .skip
def rt87_0 : VT :=
  (.ite (.bin .lt (.var 4) (.var 3))
   (.need (.t true) (.c (.bin .le (.n 0) (.var 4)))
   (.need (.t true) (.c (.bin .lt (.var 4) (.un .len (.var 0))))
   (.need (.t true) (.pre 20104 (.cons (.var 1) (.cons (.sel 0 (.var 0) (.var 4)) (.cons (.sel 1 (.var 0) (.var 4)) .nil))))
   (.lt (.app 20104 (.cons (.var 1) (.cons (.sel 0 (.var 0) (.var 4)) (.cons (.sel 1 (.var 0) (.var 4)) .nil))) 0) 1
   (.ite (.var 5)
    (.ret (.cons (.n 0) (.cons (.var 4) (.cons (.var 4) .nil))))
    (.ret (.cons (.n (-1)) (.cons (.var 2) (.cons (.bin (.add .i64) (.var 4) (.n 1)) .nil)))))))))
   (.ret (.cons (.n 1) (.cons (.var 2) (.cons (.var 4) .nil)))))
theorem le87_0 : (loopVT Try.prog (sgOf sg87) (ltOf lt87) L87_0 lb87_0).slim L87_0.nv [] = rt87_0 := by kernel_rfl
theorem lf87_0 : (firstRegion lb87_0).bind (ltOf lt87) = some L87_0 := by kernel_rfl
theorem lk87_0 : (Code.loops lb87_0).length = 0 := by kernel_rfl
def vt87 : VT :=
  (.need (.t true) (.pre 18700 (.cons (.var 0) (.cons (.var 1) (.cons (.n 0) (.cons (.un .len (.var 0)) (.cons (.n 0) .nil))))))
  (.lt (.app 18700 (.cons (.var 0) (.cons (.var 1) (.cons (.n 0) (.cons (.un .len (.var 0)) (.cons (.n 0) .nil))))) 0) 3
  (.ite (.bin .eq (.var 2) (.n 0))
   (.ret (.cons (.var 3) .nil))
   (.ret (.cons (.n (-1)) .nil)))))
theorem e87 : (fnVT Try.prog (sgOf sg87) (ltOf lt87) S87 Try.f87 c87).slim (S87.ps.map fun p => p.2.length).sum [] = vt87 := by kernel_rfl
def S81 : Sig := ⟨[(false, [(.sl 103 [.str, i6])]), (false, [.clo])], [(false, [.bool])], [], none⟩
noncomputable def c81 : Code := Try.f81.body.getD .skip
theorem b81 : Try.f81.body = some c81 := body_some (by kernel_rfl)
theorem n81 : (Try.f81.name == "runtime.NumGoroutine") = false := by kernel_rfl
def sg81 : List (FuncId × Sig) := [(87, S87)]
def lt81 : List (Nat × LoopSig) := []
theorem k81 : (Code.loops c81).length = 0 := by kernel_rfl
def vt81 : VT :=
  (.need (.t true) (.pre 87 (.cons (.var 0) (.cons (.var 1) .nil)))
  (.lt (.app 87 (.cons (.var 0) (.cons (.var 1) .nil)) 0) 1
  (.ret (.cons (.bin .le (.n 0) (.var 2)) .nil))))
theorem e81 : (fnVT Try.prog (sgOf sg81) (ltOf lt81) S81 Try.f81 c81).slim (S81.ps.map fun p => p.2.length).sum [] = vt81 := by kernel_rfl
def S69 : Sig := ⟨[(false, [(.sl 103 [.str, i6])])], [(false, [i6])], [], none⟩
noncomputable def c69 : Code := Try.f69.body.getD .skip
theorem b69 : Try.f69.body = some c69 := body_some (by kernel_rfl)
theorem n69 : (Try.f69.name == "runtime.NumGoroutine") = false := by kernel_rfl
def sg69 : List (FuncId × Sig) := [(47, S47), (81, S81)]
def L69_0 : LoopSig := ⟨16900, [],
   ⟨[(.c (.x (.sl 103 [.str, i6]) (.var 0))), .any, (.c (.x i6 (.var 1))), .any, .any, .any, .any, .any, (.c (.x (.sl 103 [.str, i6]) (.var 2))), (.c (.x i6 (.var 3))), (.c (.x i6 (.var 4))), .any, .any, .any, .any, .any, .any, .any, .any, .any, .any, .any, .any, .any, .any, .any, .any, .any, .any, .any, .any, .any, .any, .any, .any, .any],
    []⟩,
   5, [1, 4], [11, 12, 13, 14, 4, 3, 16, 17, 18, 19, 15, 2, 21, 22, 23, 24, 25, 20, 27, 28, 29, 30, 31, 32, 33, 34, 26, 35, 10], [.ret, (.exit 0)], []⟩
def lt69 : List (Nat × LoopSig) := [(4, L69_0)]
theorem k69 : (Code.loops c69).length = 1 := by kernel_rfl
noncomputable def lb69_0 : Code := (Code.loops c69).getD 0 .skip
def rt69_0 : VT :=
  (.ite (.bin .lt (.var 4) (.var 3))
   (.need (.t true) (.c (.bin .le (.n 0) (.var 4)))
   (.need (.t true) (.c (.bin .lt (.var 4) (.un .len (.var 2))))
   (.need (.t true) (.pre 47 (.cons (.sel 0 (.var 2) (.var 4)) .nil))
   (.lt (.app 47 (.cons (.sel 0 (.var 2) (.var 4)) .nil) 0) 1
   (.ite (.un .not (.var 5))
    (.ret (.cons (.n 0) (.cons (.n 5) (.cons (.var 4) .nil))))
    (.need (.t true) (.c (.bin .le (.var 4) (.un .len (.var 0))))
    (.need (.t true) (.pre 81 (.cons (.sub (.var 0) (.n 0) (.var 4)) (.cons (.clo 82 [(.pt [.str, i6])] (.cons (.pk (.cons (.sel 0 (.var 2) (.var 4)) (.cons (.sel 1 (.var 2) (.var 4)) .nil))) .nil)) .nil)))
    (.lt (.app 81 (.cons (.sub (.var 0) (.n 0) (.var 4)) (.cons (.clo 82 [(.pt [.str, i6])] (.cons (.pk (.cons (.sel 0 (.var 2) (.var 4)) (.cons (.sel 1 (.var 2) (.var 4)) .nil))) .nil)) .nil)) 0) 1
    (.ite (.var 6)
     (.ret (.cons (.n 0) (.cons (.n 6) (.cons (.var 4) .nil))))
     (.ite (.ite (.bin .lt (.sel 1 (.var 2) (.var 4)) (.n 0)) (.t true) (.bin .lt (.n 3) (.sel 1 (.var 2) (.var 4))))
      (.ret (.cons (.n 0) (.cons (.n 7) (.cons (.var 4) .nil))))
      (.ret (.cons (.n (-1)) (.cons (.var 1) (.cons (.bin (.add .i64) (.var 4) (.n 1)) .nil))))))))))))))
   (.ret (.cons (.n 1) (.cons (.var 1) (.cons (.var 4) .nil)))))
theorem le69_0 : (loopVT Try.prog (sgOf sg69) (ltOf lt69) L69_0 lb69_0).slim L69_0.nv [] = rt69_0 := by kernel_rfl
theorem lf69_0 : (firstRegion lb69_0).bind (ltOf lt69) = some L69_0 := by kernel_rfl
theorem lk69_0 : (Code.loops lb69_0).length = 0 := by kernel_rfl
def vt69 : VT :=
  (.ite (.bin .lt (.n 8) (.un .len (.var 0)))
   (.ret (.cons (.n 2) .nil))
   (.need (.t true) (.pre 16900 (.cons (.var 0) (.cons (.n 0) (.cons (.var 0) (.cons (.un .len (.var 0)) (.cons (.n 0) .nil))))))
   (.lt (.app 16900 (.cons (.var 0) (.cons (.n 0) (.cons (.var 0) (.cons (.un .len (.var 0)) (.cons (.n 0) .nil))))) 0) 3
   (.ite (.bin .eq (.var 1) (.n 0))
    (.ret (.cons (.var 2) .nil))
    (.ret (.cons (.n 0) .nil))))))
theorem e69 : (fnVT Try.prog (sgOf sg69) (ltOf lt69) S69 Try.f69 c69).slim (S69.ps.map fun p => p.2.length).sum [] = vt69 := by kernel_rfl
def S48 : Sig := ⟨[(true, [.str, .bool, (.sl 58 [.str, .str, i6, i6, i6, (.sl 103 [.str, i6])]), (.sl 75 [i6, i6, i6, i6, .str, i6, i6]), (.sl 52 [.str, i6])]), (false, [i6])], [(false, [i6])], [], none⟩
noncomputable def c48 : Code := Try.f48.body.getD .skip
theorem b48 : Try.f48.body = some c48 := body_some (by kernel_rfl)
theorem n48 : (Try.f48.name == "runtime.NumGoroutine") = false := by kernel_rfl
def sg48 : List (FuncId × Sig) := [(47, S47), (66, S66), (67, S67), (68, S68), (69, S69)]
def lt48 : List (Nat × LoopSig) := []
theorem k48 : (Code.loops c48).length = 0 := by kernel_rfl
def vt48 : VT :=
  (.need (.t true) (.c (.bin .le (.n 0) (.var 5)))
  (.need (.t true) (.c (.bin .lt (.var 5) (.un .len (.var 2))))
  (.need (.t true) (.pre 47 (.cons (.sel 0 (.var 2) (.var 5)) .nil))
  (.lt (.app 47 (.cons (.sel 0 (.var 2) (.var 5)) .nil) 0) 1
  (.ite (.un .not (.var 6))
   (.ret (.cons (.n 5) .nil))
   (.need (.t true) (.pre 66 (.cons (.var 0) (.cons (.var 1) (.cons (.var 2) (.cons (.var 3) (.cons (.var 4) (.cons (.sel 0 (.var 2) (.var 5)) .nil)))))))
   (.lt (.app 66 (.cons (.var 0) (.cons (.var 1) (.cons (.var 2) (.cons (.var 3) (.cons (.var 4) (.cons (.sel 0 (.var 2) (.var 5)) .nil)))))) 0) 1
   (.ite (.bin .lt (.var 7) (.var 5))
    (.ret (.cons (.n 6) .nil))
    (.need (.t true) (.pre 67 (.cons (.sel 1 (.var 2) (.var 5)) .nil))
    (.lt (.app 67 (.cons (.sel 1 (.var 2) (.var 5)) .nil) 0) 1
    (.ite (.un .not (.bin .eq (.var 8) (.n 0)))
     (.ret (.cons (.var 8) .nil))
     (.need (.t true) (.pre 68 (.cons (.sel 2 (.var 2) (.var 5)) .nil))
     (.lt (.app 68 (.cons (.sel 2 (.var 2) (.var 5)) .nil) 0) 1
     (.need (.var 9) (.pre 68 (.cons (.sel 3 (.var 2) (.var 5)) .nil))
     (.lt (.app 68 (.cons (.sel 3 (.var 2) (.var 5)) .nil) 0) 1
     (.ite (.ite (.ite (.ite (.un .not (.var 9)) (.t true) (.un .not (.var 10))) (.t true) (.bin .lt (.sel 4 (.var 2) (.var 5)) (.n (-1)))) (.t true) (.bin .le (.un .len (.var 4)) (.sel 4 (.var 2) (.var 5))))
      (.ret (.cons (.n 3) .nil))
      (.need (.t true) (.pre 69 (.cons (.sel 5 (.var 2) (.var 5)) .nil))
      (.lt (.app 69 (.cons (.sel 5 (.var 2) (.var 5)) .nil) 0) 1
      (.ret (.cons (.var 11) .nil))))))))))))))))))))
theorem e48 : (fnVT Try.prog (sgOf sg48) (ltOf lt48) S48 Try.f48 c48).slim (S48.ps.map fun p => p.2.length).sum [] = vt48 := by kernel_rfl
def S71 : Sig := ⟨[(true, [.str, i6]), (false, [(.pt [.str, i6])])], [(false, [.bool])], [], none⟩
noncomputable def c71 : Code := Try.f71.body.getD .skip
theorem b71 : Try.f71.body = some c71 := body_some (by kernel_rfl)
theorem n71 : (Try.f71.name == "runtime.NumGoroutine") = false := by kernel_rfl
def sg71 : List (FuncId × Sig) := []
def lt71 : List (Nat × LoopSig) := []
theorem k71 : (Code.loops c71).length = 0 := by kernel_rfl
def vt71 : VT :=
  (.ret (.cons (.bin .seq (.var 0) (.psel 0 (.var 2))) .nil))
theorem e71 : (fnVT Try.prog (sgOf sg71) (ltOf lt71) S71 Try.f71 c71).slim (S71.ps.map fun p => p.2.length).sum [] = vt71 := by kernel_rfl
def T71 : FuncId → List D → List D := tabOf []
def fn71 (ρ : List D) : List D := vt71.val T71 ρ
theorem m71 : Meets Try.prog 71 S71 (fun _ => True) fn71 := meets_easy (sgl := sg71) (Φ := T71) mixed ((fun _ h => nomatch h)) Try.func71 b71 n71 k71 e71 (by kernel_rfl)
def S83 : Sig := ⟨[(false, [(.sl 52 [.str, i6])]), (false, [.clo])], [(false, [i6])], [], none⟩
noncomputable def c83 : Code := Try.f83.body.getD .skip
theorem b83 : Try.f83.body = some c83 := body_some (by kernel_rfl)
theorem n83 : (Try.f83.name == "runtime.NumGoroutine") = false := by kernel_rfl
def sg83 : List (FuncId × Sig) := [(20053, S20053)]
def L83_0 : LoopSig := ⟨18300, [],
   ⟨[(.c (.x (.sl 52 [.str, i6]) (.var 0))), (.c (.x .clo (.var 1))), .any, .any, (.c (.x i6 (.var 2))), .any, .any, (.c (.x i6 (.var 3))), (.c (.x i6 (.var 4))), .any, .any, .any, .any, .any, .any, .any, .any, .any, .any],
    []⟩,
   5, [2, 4], [9, 10, 5, 11, 12, 13, 14, 15, 16, 17, 4, 18, 8], [.ret, (.exit 0)], []⟩
def lt83 : List (Nat × LoopSig) := [(2, L83_0)]
theorem k83 : (Code.loops c83).length = 1 := by kernel_rfl
noncomputable def lb83_0 : Code := (Code.loops c83).getD 0 .skip
def rt83_0 : VT :=
  (.ite (.bin .lt (.var 4) (.var 3))
   (.need (.t true) (.c (.bin .le (.n 0) (.var 4)))
   (.need (.t true) (.c (.bin .lt (.var 4) (.un .len (.var 0))))
   (.need (.t true) (.pre 20053 (.cons (.var 1) (.cons (.sel 0 (.var 0) (.var 4)) (.cons (.sel 1 (.var 0) (.var 4)) .nil))))
   (.lt (.app 20053 (.cons (.var 1) (.cons (.sel 0 (.var 0) (.var 4)) (.cons (.sel 1 (.var 0) (.var 4)) .nil))) 0) 1
   (.ite (.var 5)
    (.ret (.cons (.n 0) (.cons (.var 4) (.cons (.var 4) .nil))))
    (.ret (.cons (.n (-1)) (.cons (.var 2) (.cons (.bin (.add .i64) (.var 4) (.n 1)) .nil)))))))))
   (.ret (.cons (.n 1) (.cons (.var 2) (.cons (.var 4) .nil)))))
theorem le83_0 : (loopVT Try.prog (sgOf sg83) (ltOf lt83) L83_0 lb83_0).slim L83_0.nv [] = rt83_0 := by kernel_rfl
theorem lf83_0 : (firstRegion lb83_0).bind (ltOf lt83) = some L83_0 := by kernel_rfl
theorem lk83_0 : (Code.loops lb83_0).length = 0 := by kernel_rfl
def vt83 : VT :=
  (.need (.t true) (.pre 18300 (.cons (.var 0) (.cons (.var 1) (.cons (.n 0) (.cons (.un .len (.var 0)) (.cons (.n 0) .nil))))))
  (.lt (.app 18300 (.cons (.var 0) (.cons (.var 1) (.cons (.n 0) (.cons (.un .len (.var 0)) (.cons (.n 0) .nil))))) 0) 3
  (.ite (.bin .eq (.var 2) (.n 0))
   (.ret (.cons (.var 3) .nil))
   (.ret (.cons (.n (-1)) .nil)))))
theorem e83 : (fnVT Try.prog (sgOf sg83) (ltOf lt83) S83 Try.f83 c83).slim (S83.ps.map fun p => p.2.length).sum [] = vt83 := by kernel_rfl
def S70 : Sig := ⟨[(false, [(.sl 52 [.str, i6])]), (false, [.clo])], [(false, [.bool])], [], none⟩
noncomputable def c70 : Code := Try.f70.body.getD .skip
theorem b70 : Try.f70.body = some c70 := body_some (by kernel_rfl)
theorem n70 : (Try.f70.name == "runtime.NumGoroutine") = false := by kernel_rfl
def sg70 : List (FuncId × Sig) := [(83, S83)]
def lt70 : List (Nat × LoopSig) := []
theorem k70 : (Code.loops c70).length = 0 := by kernel_rfl
def vt70 : VT :=
  (.need (.t true) (.pre 83 (.cons (.var 0) (.cons (.var 1) .nil)))
  (.lt (.app 83 (.cons (.var 0) (.cons (.var 1) .nil)) 0) 1
  (.ret (.cons (.bin .le (.n 0) (.var 2)) .nil))))
theorem e70 : (fnVT Try.prog (sgOf sg70) (ltOf lt70) S70 Try.f70 c70).slim (S70.ps.map fun p => p.2.length).sum [] = vt70 := by kernel_rfl
def S84 : Sig := ⟨[(true, [.str, .bool, (.sl 58 [.str, .str, i6, i6, i6, (.sl 103 [.str, i6])]), (.sl 75 [i6, i6, i6, i6, .str, i6, i6]), (.sl 52 [.str, i6])]), (false, [i6])], [(false, [(.sl 3 [i6])])], [], none⟩
noncomputable def c84 : Code := Try.f84.body.getD .skip
theorem b84 : Try.f84.body = some c84 := body_some (by kernel_rfl)
theorem n84 : (Try.f84.name == "runtime.NumGoroutine") = false := by kernel_rfl
def sg84 : List (FuncId × Sig) := []
def L84_0 : LoopSig := ⟨18400, [(5, none, 3)],
   ⟨[.any, (.c (.x i6 (.var 0))), (.c (.ptr 0 0)), .any, .any, (.c (.row 1 1)), .any, .any, .any, .any, .any, .any, .any, .any, .any, .any, .any, .any, .any],
    [some ⟨(.t true), (.box 36 [(.x .str (.var 1)), (.x .bool (.var 2)), (.x (.sl 58 [.str, .str, i6, i6, i6, (.sl 103 [.str, i6])]) (.var 3)), (.x (.sl 75 [i6, i6, i6, i6, .str, i6, i6]) (.var 4)), (.x (.sl 52 [.str, i6]) (.var 5))] false)⟩, some ⟨(.t true), (.row 3 [i6] (.var 6) 1 false)⟩]⟩,
   7, [0, 6], [6, 7, 8, 9, 10, 11, 5, 12, 13, 14, 15, 16, 17, 1], [(.exit 0)], [6]⟩
def lt84 : List (Nat × LoopSig) := [(2, L84_0)]
theorem k84 : (Code.loops c84).length = 1 := by kernel_rfl
noncomputable def lb84_0 : Code := (Code.loops c84).getD 0 .skip
def rt84_0 : VT :=
  (.ite (.bin .le (.n 0) (.var 0))
   (.need (.t true) (.c (.bin .le (.un .len (.bin .cat (.var 6) (.lcons (.cons (.var 0) .nil) .lnil))) (.n 17592186044416)))
   (.need (.t true) (.c (.bin .lt (.var 0) (.un .len (.var 5))))
   (.ret (.cons (.n (-1)) (.cons (.sel 1 (.var 5) (.var 0)) (.cons (.bin .cat (.var 6) (.lcons (.cons (.var 0) .nil) .lnil)) .nil))))))
   (.ret (.cons (.n 0) (.cons (.var 0) (.cons (.var 6) .nil)))))
theorem le84_0 : (loopVT Try.prog (sgOf sg84) (ltOf lt84) L84_0 lb84_0).slim L84_0.nv [] = rt84_0 := by kernel_rfl
theorem lf84_0 : (firstRegion lb84_0).bind (ltOf lt84) = some L84_0 := by kernel_rfl
theorem lk84_0 : (Code.loops lb84_0).length = 0 := by kernel_rfl
def vt84 : VT :=
  (.need (.t true) (.pre 18400 (.cons (.var 5) (.cons (.var 0) (.cons (.var 1) (.cons (.var 2) (.cons (.var 3) (.cons (.var 4) (.cons .lnil .nil))))))))
  (.lt (.app 18400 (.cons (.var 5) (.cons (.var 0) (.cons (.var 1) (.cons (.var 2) (.cons (.var 3) (.cons (.var 4) (.cons .lnil .nil))))))) 0) 3
  (.ret (.cons (.var 8) .nil))))
theorem e84 : (fnVT Try.prog (sgOf sg84) (ltOf lt84) S84 Try.f84 c84).slim (S84.ps.map fun p => p.2.length).sum [] = vt84 := by kernel_rfl
def S72 : Sig := ⟨[(true, [.str, .bool, (.sl 58 [.str, .str, i6, i6, i6, (.sl 103 [.str, i6])]), (.sl 75 [i6, i6, i6, i6, .str, i6, i6]), (.sl 52 [.str, i6])]), (false, [i6])], [(false, [i6])], [], none⟩
noncomputable def c72 : Code := Try.f72.body.getD .skip
theorem b72 : Try.f72.body = some c72 := body_some (by kernel_rfl)
theorem n72 : (Try.f72.name == "runtime.NumGoroutine") = false := by kernel_rfl
def sg72 : List (FuncId × Sig) := [(84, S84)]
def lt72 : List (Nat × LoopSig) := []
theorem k72 : (Code.loops c72).length = 0 := by kernel_rfl
def vt72 : VT :=
  (.need (.t true) (.pre 84 (.cons (.var 0) (.cons (.var 1) (.cons (.var 2) (.cons (.var 3) (.cons (.var 4) (.cons (.var 5) .nil)))))))
  (.lt (.app 84 (.cons (.var 0) (.cons (.var 1) (.cons (.var 2) (.cons (.var 3) (.cons (.var 4) (.cons (.var 5) .nil)))))) 0) 1
  (.ret (.cons (.un .len (.var 6)) .nil))))
theorem e72 : (fnVT Try.prog (sgOf sg72) (ltOf lt72) S72 Try.f72 c72).slim (S72.ps.map fun p => p.2.length).sum [] = vt72 := by kernel_rfl
def S49 : Sig := ⟨[(true, [.str, .bool, (.sl 58 [.str, .str, i6, i6, i6, (.sl 103 [.str, i6])]), (.sl 75 [i6, i6, i6, i6, .str, i6, i6]), (.sl 52 [.str, i6])]), (false, [i6])], [(false, [i6])], [], none⟩
noncomputable def c49 : Code := Try.f49.body.getD .skip
theorem b49 : Try.f49.body = some c49 := body_some (by kernel_rfl)
theorem n49 : (Try.f49.name == "runtime.NumGoroutine") = false := by kernel_rfl
def sg49 : List (FuncId × Sig) := [(47, S47), (66, S66), (70, S70), (72, S72)]
def lt49 : List (Nat × LoopSig) := []
theorem k49 : (Code.loops c49).length = 0 := by kernel_rfl
def vt49 : VT :=
  (.need (.t true) (.c (.bin .le (.n 0) (.var 5)))
  (.need (.t true) (.c (.bin .lt (.var 5) (.un .len (.var 4))))
  (.need (.t true) (.pre 47 (.cons (.sel 0 (.var 4) (.var 5)) .nil))
  (.lt (.app 47 (.cons (.sel 0 (.var 4) (.var 5)) .nil) 0) 1
  (.ite (.un .not (.var 6))
   (.ret (.cons (.n 5) .nil))
   (.need (.t true) (.pre 66 (.cons (.var 0) (.cons (.var 1) (.cons (.var 2) (.cons (.var 3) (.cons (.var 4) (.cons (.sel 0 (.var 4) (.var 5)) .nil)))))))
   (.lt (.app 66 (.cons (.var 0) (.cons (.var 1) (.cons (.var 2) (.cons (.var 3) (.cons (.var 4) (.cons (.sel 0 (.var 4) (.var 5)) .nil)))))) 0) 1
   (.need (.un .not (.bin .le (.n 0) (.var 7))) (.c (.bin .le (.var 5) (.un .len (.var 4))))
   (.need (.un .not (.bin .le (.n 0) (.var 7))) (.pre 70 (.cons (.sub (.var 4) (.n 0) (.var 5)) (.cons (.clo 71 [(.pt [.str, i6])] (.cons (.pk (.cons (.sel 0 (.var 4) (.var 5)) (.cons (.sel 1 (.var 4) (.var 5)) .nil))) .nil)) .nil)))
   (.lt (.app 70 (.cons (.sub (.var 4) (.n 0) (.var 5)) (.cons (.clo 71 [(.pt [.str, i6])] (.cons (.pk (.cons (.sel 0 (.var 4) (.var 5)) (.cons (.sel 1 (.var 4) (.var 5)) .nil))) .nil)) .nil)) 0) 1
   (.ite (.ite (.bin .le (.n 0) (.var 7)) (.t true) (.var 8))
    (.ret (.cons (.n 6) .nil))
    (.ite (.ite (.bin .lt (.sel 1 (.var 4) (.var 5)) (.n (-1))) (.t true) (.bin .le (.var 5) (.sel 1 (.var 4) (.var 5))))
     (.ret (.cons (.n 3) .nil))
     (.need (.t true) (.pre 72 (.cons (.var 0) (.cons (.var 1) (.cons (.var 2) (.cons (.var 3) (.cons (.var 4) (.cons (.var 5) .nil)))))))
     (.lt (.app 72 (.cons (.var 0) (.cons (.var 1) (.cons (.var 2) (.cons (.var 3) (.cons (.var 4) (.cons (.var 5) .nil)))))) 0) 1
     (.ite (.bin .lt (.n 6) (.var 9))
      (.ret (.cons (.n 2) .nil))
      (.ret (.cons (.n 0) .nil)))))))))))))))))
theorem e49 : (fnVT Try.prog (sgOf sg49) (ltOf lt49) S49 Try.f49 c49).slim (S49.ps.map fun p => p.2.length).sum [] = vt49 := by kernel_rfl
def S50 : Sig := ⟨[(true, [.str, .bool, (.sl 58 [.str, .str, i6, i6, i6, (.sl 103 [.str, i6])]), (.sl 75 [i6, i6, i6, i6, .str, i6, i6]), (.sl 52 [.str, i6])]), (true, [i6, i6, i6, i6, .str, i6, i6])], [(false, [i6])], [], none⟩
noncomputable def c50 : Code := Try.f50.body.getD .skip
theorem b50 : Try.f50.body = some c50 := body_some (by kernel_rfl)
theorem n50 : (Try.f50.name == "runtime.NumGoroutine") = false := by kernel_rfl
def sg50 : List (FuncId × Sig) := [(67, S67)]
def lt50 : List (Nat × LoopSig) := []
theorem k50 : (Code.loops c50).length = 0 := by kernel_rfl
def vt50 : VT :=
  (.need (.un .not (.ite (.ite (.bin .lt (.bin .min (.var 5) (.var 6)) (.n 0)) (.t true) (.bin .le (.un .len (.var 2)) (.bin .max (.var 5) (.var 6)))) (.t true) (.bin .lt (.bin .min (.var 7) (.var 8)) (.n (-1))))) (.c (.bin .le (.n 0) (.var 5)))
  (.need (.un .not (.ite (.ite (.bin .lt (.bin .min (.var 5) (.var 6)) (.n 0)) (.t true) (.bin .le (.un .len (.var 2)) (.bin .max (.var 5) (.var 6)))) (.t true) (.bin .lt (.bin .min (.var 7) (.var 8)) (.n (-1))))) (.c (.bin .lt (.var 5) (.un .len (.var 2))))
  (.need (.un .not (.ite (.ite (.ite (.bin .lt (.bin .min (.var 5) (.var 6)) (.n 0)) (.t true) (.bin .le (.un .len (.var 2)) (.bin .max (.var 5) (.var 6)))) (.t true) (.bin .lt (.bin .min (.var 7) (.var 8)) (.n (-1)))) (.t true) (.bin .le (.un .len (.sel 5 (.var 2) (.var 5))) (.var 7)))) (.c (.bin .le (.n 0) (.var 6)))
  (.need (.un .not (.ite (.ite (.ite (.bin .lt (.bin .min (.var 5) (.var 6)) (.n 0)) (.t true) (.bin .le (.un .len (.var 2)) (.bin .max (.var 5) (.var 6)))) (.t true) (.bin .lt (.bin .min (.var 7) (.var 8)) (.n (-1)))) (.t true) (.bin .le (.un .len (.sel 5 (.var 2) (.var 5))) (.var 7)))) (.c (.bin .lt (.var 6) (.un .len (.var 2))))
  (.ite (.ite (.ite (.ite (.ite (.bin .lt (.bin .min (.var 5) (.var 6)) (.n 0)) (.t true) (.bin .le (.un .len (.var 2)) (.bin .max (.var 5) (.var 6)))) (.t true) (.bin .lt (.bin .min (.var 7) (.var 8)) (.n (-1)))) (.t true) (.bin .le (.un .len (.sel 5 (.var 2) (.var 5))) (.var 7))) (.t true) (.bin .le (.un .len (.sel 5 (.var 2) (.var 6))) (.var 8)))
   (.ret (.cons (.n 3) .nil))
   (.need (.t true) (.pre 67 (.cons (.var 9) .nil))
   (.lt (.app 67 (.cons (.var 9) .nil) 0) 1
   (.ite (.un .not (.bin .eq (.var 12) (.n 0)))
    (.ret (.cons (.var 12) .nil))
    (.ite (.ite (.ite (.ite (.bin .lt (.var 10) (.n 1)) (.t true) (.bin .lt (.n 1000) (.var 10))) (.t true) (.bin .lt (.var 11) (.n 1))) (.t true) (.bin .lt (.n 64) (.var 11)))
     (.ret (.cons (.n 7) .nil))
     (.ret (.cons (.n 0) .nil)))))))))))
theorem e50 : (fnVT Try.prog (sgOf sg50) (ltOf lt50) S50 Try.f50 c50).slim (S50.ps.map fun p => p.2.length).sum [] = vt50 := by kernel_rfl
def S30 : Sig := ⟨[(true, [.str, .bool, (.sl 58 [.str, .str, i6, i6, i6, (.sl 103 [.str, i6])]), (.sl 75 [i6, i6, i6, i6, .str, i6, i6]), (.sl 52 [.str, i6])])], [(false, [i6])], [], none⟩
noncomputable def c30 : Code := Try.f30.body.getD .skip
theorem b30 : Try.f30.body = some c30 := body_some (by kernel_rfl)
theorem n30 : (Try.f30.name == "runtime.NumGoroutine") = false := by kernel_rfl
def sg30 : List (FuncId × Sig) := [(47, S47), (48, S48), (49, S49), (50, S50)]
def L30_0 : LoopSig := ⟨13000, [],
   ⟨[.any, (.c (.ptr 0 0)), (.c (.x i6 (.var 0))), .any, .any, .any, .any, .any, .any, .any, .any, .any, .any, .any, .any, .any, .any, .any, .any, .any, .any, .any, .any, .any, .any, .any, .any, .any, .any, .any, .any, .any, (.c (.x i6 (.var 1))), (.c (.x i6 (.var 2))), .any, .any, .any, .any, .any, .any, .any, .any, .any, .any, .any, .any, .any, .any, .any, .any, .any, .any, .any, .any, .any, .any, .any, .any, .any, .any, .any, .any, .any, .any, .any, .any, .any, .any, .any, .any],
    [some ⟨(.t true), (.box 36 [(.x .str (.var 3)), (.x .bool (.var 4)), (.x (.sl 58 [.str, .str, i6, i6, i6, (.sl 103 [.str, i6])]) (.var 5)), (.x (.sl 75 [i6, i6, i6, i6, .str, i6, i6]) (.var 6)), (.x (.sl 52 [.str, i6]) (.var 7))] false)⟩]⟩,
   8, [0, 2], [34, 35, 3, 36, 37, 38, 4, 39, 40, 41, 2, 42, 33], [.ret, (.exit 0)], []⟩
def L30_1 : LoopSig := ⟨13001, [],
   ⟨[.any, (.c (.ptr 0 0)), (.c (.x i6 (.var 0))), .any, .any, .any, .any, .any, .any, .any, .any, .any, .any, .any, .any, .any, .any, .any, .any, .any, .any, .any, .any, .any, .any, .any, .any, .any, .any, .any, .any, .any, .any, .any, .any, .any, .any, .any, .any, .any, .any, .any, .any, .any, .any, (.c (.x i6 (.var 1))), (.c (.x i6 (.var 2))), .any, .any, .any, .any, .any, .any, .any, .any, .any, .any, .any, .any, .any, .any, .any, .any, .any, .any, .any, .any, .any, .any, .any],
    [some ⟨(.t true), (.box 36 [(.x .str (.var 3)), (.x .bool (.var 4)), (.x (.sl 58 [.str, .str, i6, i6, i6, (.sl 103 [.str, i6])]) (.var 5)), (.x (.sl 75 [i6, i6, i6, i6, .str, i6, i6]) (.var 6)), (.x (.sl 52 [.str, i6]) (.var 7))] false)⟩]⟩,
   8, [0, 2], [47, 48, 5, 49, 50, 51, 6, 52, 53, 54, 2, 55, 46], [.ret, (.exit 2)], []⟩
def L30_2 : LoopSig := ⟨13002, [],
   ⟨[.any, (.c (.ptr 0 0)), (.c (.x i6 (.var 0))), .any, .any, .any, .any, .any, .any, .any, .any, .any, .any, .any, .any, .any, .any, .any, .any, .any, .any, .any, .any, .any, .any, .any, .any, .any, .any, .any, .any, .any, .any, .any, .any, .any, .any, .any, .any, .any, .any, .any, .any, .any, .any, .any, .any, .any, .any, .any, .any, .any, .any, .any, .any, .any, .any, (.c (.x (.sl 75 [i6, i6, i6, i6, .str, i6, i6]) (.var 1))), (.c (.x i6 (.var 2))), (.c (.x i6 (.var 3))), .any, .any, .any, .any, .any, .any, .any, .any, .any, .any],
    [some ⟨(.t true), (.box 36 [(.x .str (.var 4)), (.x .bool (.var 5)), (.x (.sl 58 [.str, .str, i6, i6, i6, (.sl 103 [.str, i6])]) (.var 6)), (.x (.sl 75 [i6, i6, i6, i6, .str, i6, i6]) (.var 7)), (.x (.sl 52 [.str, i6]) (.var 8))] false)⟩]⟩,
   9, [0, 3], [60, 61, 62, 8, 63, 64, 65, 9, 66, 67, 68, 2, 69, 59], [.ret, (.exit 4)], []⟩
def lt30 : List (Nat × LoopSig) := [(6, L30_0), (13, L30_1), (20, L30_2)]
theorem k30 : (Code.loops c30).length = 3 := by kernel_rfl
noncomputable def lb30_0 : Code := (Code.loops c30).getD 0 .skip
noncomputable def lb30_1 : Code := (Code.loops c30).getD 1 .skip
noncomputable def lb30_2 : Code := (Code.loops c30).getD 2 .skip
def rt30_0 : VT :=
  (.ite (.bin .lt (.var 2) (.var 1))
   (.need (.t true) (.pre 48 (.cons (.var 3) (.cons (.var 4) (.cons (.var 5) (.cons (.var 6) (.cons (.var 7) (.cons (.var 2) .nil)))))))
   (.lt (.app 48 (.cons (.var 3) (.cons (.var 4) (.cons (.var 5) (.cons (.var 6) (.cons (.var 7) (.cons (.var 2) .nil)))))) 0) 1
   (.ite (.un .not (.bin .eq (.var 8) (.n 0)))
    (.ret (.cons (.n 0) (.cons (.var 8) (.cons (.var 2) .nil))))
    (.ret (.cons (.n (-1)) (.cons (.var 0) (.cons (.bin (.add .i64) (.var 2) (.n 1)) .nil)))))))
   (.ret (.cons (.n 1) (.cons (.var 0) (.cons (.var 2) .nil)))))
theorem le30_0 : (loopVT Try.prog (sgOf sg30) (ltOf lt30) L30_0 lb30_0).slim L30_0.nv [] = rt30_0 := by kernel_rfl
theorem lf30_0 : (firstRegion lb30_0).bind (ltOf lt30) = some L30_0 := by kernel_rfl
theorem lk30_0 : (Code.loops lb30_0).length = 0 := by kernel_rfl
def rt30_1 : VT :=
  (.ite (.bin .lt (.var 2) (.var 1))
   (.need (.t true) (.pre 49 (.cons (.var 3) (.cons (.var 4) (.cons (.var 5) (.cons (.var 6) (.cons (.var 7) (.cons (.var 2) .nil)))))))
   (.lt (.app 49 (.cons (.var 3) (.cons (.var 4) (.cons (.var 5) (.cons (.var 6) (.cons (.var 7) (.cons (.var 2) .nil)))))) 0) 1
   (.ite (.un .not (.bin .eq (.var 8) (.n 0)))
    (.ret (.cons (.n 0) (.cons (.var 8) (.cons (.var 2) .nil))))
    (.ret (.cons (.n (-1)) (.cons (.var 0) (.cons (.bin (.add .i64) (.var 2) (.n 1)) .nil)))))))
   (.ret (.cons (.n 1) (.cons (.var 0) (.cons (.var 2) .nil)))))
theorem le30_1 : (loopVT Try.prog (sgOf sg30) (ltOf lt30) L30_1 lb30_1).slim L30_1.nv [] = rt30_1 := by kernel_rfl
theorem lf30_1 : (firstRegion lb30_1).bind (ltOf lt30) = some L30_1 := by kernel_rfl
theorem lk30_1 : (Code.loops lb30_1).length = 0 := by kernel_rfl
def rt30_2 : VT :=
  (.ite (.bin .lt (.var 3) (.var 2))
   (.need (.t true) (.c (.bin .le (.n 0) (.var 3)))
   (.need (.t true) (.c (.bin .lt (.var 3) (.un .len (.var 1))))
   (.need (.t true) (.pre 50 (.cons (.var 4) (.cons (.var 5) (.cons (.var 6) (.cons (.var 7) (.cons (.var 8) (.cons (.sel 0 (.var 1) (.var 3)) (.cons (.sel 1 (.var 1) (.var 3)) (.cons (.sel 2 (.var 1) (.var 3)) (.cons (.sel 3 (.var 1) (.var 3)) (.cons (.sel 4 (.var 1) (.var 3)) (.cons (.sel 5 (.var 1) (.var 3)) (.cons (.sel 6 (.var 1) (.var 3)) .nil)))))))))))))
   (.lt (.app 50 (.cons (.var 4) (.cons (.var 5) (.cons (.var 6) (.cons (.var 7) (.cons (.var 8) (.cons (.sel 0 (.var 1) (.var 3)) (.cons (.sel 1 (.var 1) (.var 3)) (.cons (.sel 2 (.var 1) (.var 3)) (.cons (.sel 3 (.var 1) (.var 3)) (.cons (.sel 4 (.var 1) (.var 3)) (.cons (.sel 5 (.var 1) (.var 3)) (.cons (.sel 6 (.var 1) (.var 3)) .nil)))))))))))) 0) 1
   (.ite (.un .not (.bin .eq (.var 9) (.n 0)))
    (.ret (.cons (.n 0) (.cons (.var 9) (.cons (.var 3) .nil))))
    (.ret (.cons (.n (-1)) (.cons (.var 0) (.cons (.bin (.add .i64) (.var 3) (.n 1)) .nil)))))))))
   (.ret (.cons (.n 1) (.cons (.var 0) (.cons (.var 3) .nil)))))
theorem le30_2 : (loopVT Try.prog (sgOf sg30) (ltOf lt30) L30_2 lb30_2).slim L30_2.nv [] = rt30_2 := by kernel_rfl
theorem lf30_2 : (firstRegion lb30_2).bind (ltOf lt30) = some L30_2 := by kernel_rfl
theorem lk30_2 : (Code.loops lb30_2).length = 0 := by kernel_rfl
def vt30 : VT :=
  (.ite (.ite (.ite (.bin .lt (.n 64) (.un .len (.var 2))) (.t true) (.bin .lt (.n 256) (.un .len (.var 3)))) (.t true) (.bin .lt (.n 16) (.un .len (.var 4))))
   (.ret (.cons (.n 2) .nil))
   (.need (.t true) (.pre 47 (.cons (.var 0) .nil))
   (.lt (.app 47 (.cons (.var 0) .nil) 0) 1
   (.ite (.un .not (.var 5))
    (.ret (.cons (.n 5) .nil))
    (.need (.t true) (.pre 13000 (.cons (.n 0) (.cons (.un .len (.var 2)) (.cons (.n 0) (.cons (.var 0) (.cons (.var 1) (.cons (.var 2) (.cons (.var 3) (.cons (.var 4) .nil)))))))))
    (.lt (.app 13000 (.cons (.n 0) (.cons (.un .len (.var 2)) (.cons (.n 0) (.cons (.var 0) (.cons (.var 1) (.cons (.var 2) (.cons (.var 3) (.cons (.var 4) .nil)))))))) 0) 3
    (.ite (.bin .eq (.var 6) (.n 0))
     (.ret (.cons (.var 7) .nil))
     (.need (.t true) (.pre 13001 (.cons (.var 7) (.cons (.un .len (.var 4)) (.cons (.n 0) (.cons (.var 0) (.cons (.var 1) (.cons (.var 2) (.cons (.var 3) (.cons (.var 4) .nil)))))))))
     (.lt (.app 13001 (.cons (.var 7) (.cons (.un .len (.var 4)) (.cons (.n 0) (.cons (.var 0) (.cons (.var 1) (.cons (.var 2) (.cons (.var 3) (.cons (.var 4) .nil)))))))) 0) 3
     (.ite (.bin .eq (.var 9) (.n 0))
      (.ret (.cons (.var 10) .nil))
      (.need (.t true) (.pre 13002 (.cons (.var 10) (.cons (.var 3) (.cons (.un .len (.var 3)) (.cons (.n 0) (.cons (.var 0) (.cons (.var 1) (.cons (.var 2) (.cons (.var 3) (.cons (.var 4) .nil))))))))))
      (.lt (.app 13002 (.cons (.var 10) (.cons (.var 3) (.cons (.un .len (.var 3)) (.cons (.n 0) (.cons (.var 0) (.cons (.var 1) (.cons (.var 2) (.cons (.var 3) (.cons (.var 4) .nil))))))))) 0) 3
      (.ite (.bin .eq (.var 12) (.n 0))
       (.ret (.cons (.var 13) .nil))
       (.ret (.cons (.n 0) .nil)))))))))))))))
theorem e30 : (fnVT Try.prog (sgOf sg30) (ltOf lt30) S30 Try.f30 c30).slim (S30.ps.map fun p => p.2.length).sum [] = vt30 := by kernel_rfl
def S53 : Sig := ⟨[(true, [.str, .bool, (.sl 58 [.str, .str, i6, i6, i6, (.sl 103 [.str, i6])]), (.sl 75 [i6, i6, i6, i6, .str, i6, i6]), (.sl 52 [.str, i6])]), (false, [i6])], [(false, [i6])], [], none⟩
noncomputable def c53 : Code := Try.f53.body.getD .skip
theorem b53 : Try.f53.body = some c53 := body_some (by kernel_rfl)
theorem n53 : (Try.f53.name == "runtime.NumGoroutine") = false := by kernel_rfl
def sg53 : List (FuncId × Sig) := [(30, S30), (72, S72)]
def lt53 : List (Nat × LoopSig) := []
theorem k53 : (Code.loops c53).length = 0 := by kernel_rfl
def vt53 : VT :=
  (.need (.t true) (.pre 30 (.cons (.var 0) (.cons (.var 1) (.cons (.var 2) (.cons (.var 3) (.cons (.var 4) .nil))))))
  (.lt (.app 30 (.cons (.var 0) (.cons (.var 1) (.cons (.var 2) (.cons (.var 3) (.cons (.var 4) .nil))))) 0) 1
  (.ite (.ite (.ite (.un .not (.bin .eq (.var 6) (.n 0))) (.t true) (.bin .lt (.var 5) (.n (-1)))) (.t true) (.bin .le (.un .len (.var 4)) (.var 5)))
   (.ret (.cons (.n 0) .nil))
   (.need (.t true) (.pre 72 (.cons (.var 0) (.cons (.var 1) (.cons (.var 2) (.cons (.var 3) (.cons (.var 4) (.cons (.var 5) .nil)))))))
   (.lt (.app 72 (.cons (.var 0) (.cons (.var 1) (.cons (.var 2) (.cons (.var 3) (.cons (.var 4) (.cons (.var 5) .nil)))))) 0) 1
   (.ret (.cons (.var 7) .nil)))))))
theorem e53 : (fnVT Try.prog (sgOf sg53) (ltOf lt53) S53 Try.f53 c53).slim (S53.ps.map fun p => p.2.length).sum [] = vt53 := by kernel_rfl
def S52 : Sig := ⟨[(false, [i6]), (false, [i6]), (false, [(.pt [.str, .bool, (.sl 58 [.str, .str, i6, i6, i6, (.sl 103 [.str, i6])]), (.sl 75 [i6, i6, i6, i6, .str, i6, i6]), (.sl 52 [.str, i6])])])], [(false, [i6])], [], none⟩
noncomputable def c52 : Code := Try.f52.body.getD .skip
theorem b52 : Try.f52.body = some c52 := body_some (by kernel_rfl)
theorem n52 : (Try.f52.name == "runtime.NumGoroutine") = false := by kernel_rfl
def sg52 : List (FuncId × Sig) := [(53, S53)]
def lt52 : List (Nat × LoopSig) := []
theorem k52 : (Code.loops c52).length = 0 := by kernel_rfl
def vt52 : VT :=
  (.need (.t true) (.pre 53 (.cons (.psel 0 (.var 2)) (.cons (.psel 1 (.var 2)) (.cons (.psel 2 (.var 2)) (.cons (.psel 3 (.var 2)) (.cons (.psel 4 (.var 2)) (.cons (.var 0) .nil)))))))
  (.lt (.app 53 (.cons (.psel 0 (.var 2)) (.cons (.psel 1 (.var 2)) (.cons (.psel 2 (.var 2)) (.cons (.psel 3 (.var 2)) (.cons (.psel 4 (.var 2)) (.cons (.var 0) .nil)))))) 0) 1
  (.need (.t true) (.pre 53 (.cons (.psel 0 (.var 2)) (.cons (.psel 1 (.var 2)) (.cons (.psel 2 (.var 2)) (.cons (.psel 3 (.var 2)) (.cons (.psel 4 (.var 2)) (.cons (.var 1) .nil)))))))
  (.lt (.app 53 (.cons (.psel 0 (.var 2)) (.cons (.psel 1 (.var 2)) (.cons (.psel 2 (.var 2)) (.cons (.psel 3 (.var 2)) (.cons (.psel 4 (.var 2)) (.cons (.var 1) .nil)))))) 0) 1
  (.ret (.cons (.bin (.sub .i64) (.var 3) (.var 4)) .nil))))))
theorem e52 : (fnVT Try.prog (sgOf sg52) (ltOf lt52) S52 Try.f52 c52).slim (S52.ps.map fun p => p.2.length).sum [] = vt52 := by kernel_rfl
def S85 : Sig := ⟨[(false, [(.osl 3 [i6])]), (false, [i6]), (false, [i6]), (false, [.clo])], [], [], none⟩
noncomputable def c85 : Code := Try.f85.body.getD .skip
theorem b85 : Try.f85.body = some c85 := body_some (by kernel_rfl)
theorem n85 : (Try.f85.name == "runtime.NumGoroutine") = false := by kernel_rfl
def sg85 : List (FuncId × Sig) := [(24004, S24004)]
def L85_0 : LoopSig := ⟨18501, [],
   ⟨[(.c (.row 0 1)), (.c (.x i6 (.var 0))), (.c (.x i6 (.var 1))), (.c (.x .clo (.var 2))), .any, .any, .any, .any, (.c (.x i6 (.var 3))), .any, .any, .any, .any, .any, .any, .any, .any, .any, .any, .any, .any, .any, .any, .any, .any, .any, .any, .any, .any, .any, .any, .any, .any, .any, .any, .any, .any, .any, .any, .any, .any, .any, .any, .any, .any, .any, .any, .any, .any, .any, .any, .any, .any],
    [some ⟨(.t true), (.row 3 [i6] (.var 4) 1 false)⟩]⟩,
   5, [3, 4], [12, 13, 14, 17, 9, 18, 19, 20, 21, 22, 23, 24, 25, 26, 27, 28, 29, 30, 31, 32, 33, 34, 37, 38, 39, 40, 41, 42, 43, 44, 45, 46, 47, 48, 49, 50, 51, 52, 35, 36, 15, 16, 8], [(.exit 0)], []⟩
def L85_1 : LoopSig := ⟨18500, [],
   ⟨[(.c (.row 0 1)), (.c (.x i6 (.var 0))), .any, (.c (.x .clo (.var 1))), .any, .any, .any, .any, .any, (.c (.x i6 (.var 2))), .any, .any, .any, .any, .any, .any, .any, .any, .any, .any, .any, .any, .any, .any, .any, .any, .any, .any, .any, .any, .any, .any, .any, .any, .any, .any, .any, .any, .any, .any, .any, .any, .any, .any, .any, .any, .any, .any, .any, .any, .any, .any, .any],
    [some ⟨(.t true), (.row 3 [i6] (.var 3) 1 false)⟩]⟩,
   4, [2, 3], [18, 19, 20, 21, 22, 23, 24, 25, 26, 27, 28, 29, 30, 31, 32, 33, 34, 37, 38, 39, 40, 41, 42, 43, 44, 45, 46, 47, 48, 49, 50, 51, 52, 35, 36, 9], [(.exit 2)], []⟩
def lt85 : List (Nat × LoopSig) := [(1, L85_0), (4, L85_1)]
theorem k85 : (Code.loops c85).length = 2 := by kernel_rfl
noncomputable def lb85_0 : Code := (Code.loops c85).getD 0 .skip
noncomputable def lb85_1 : Code := (Code.loops c85).getD 1 .skip
def rt85_0 : VT :=
  (.ite (.bin .lt (.var 3) (.var 1))
   (.need (.t true) (.pre 18500 (.cons (.var 0) (.cons (.var 2) (.cons (.var 3) (.cons (.var 4) .nil)))))
   (.lt (.app 18500 (.cons (.var 0) (.cons (.var 2) (.cons (.var 3) (.cons (.var 4) .nil)))) 0) 3
   (.ret (.cons (.n (-1)) (.cons (.bin (.add .i64) (.var 3) (.n 1)) (.cons (.var 7) .nil))))))
   (.ret (.cons (.n 0) (.cons (.var 3) (.cons (.var 4) .nil)))))
theorem le85_0 : (loopVT Try.prog (sgOf sg85) (ltOf lt85) L85_0 lb85_0).slim L85_0.nv [] = rt85_0 := by kernel_rfl
theorem lf85_0 : (firstRegion lb85_0).bind (ltOf lt85) = some L85_0 := by kernel_rfl
theorem lk85_0 : (Code.loops lb85_0).length = 1 := by kernel_rfl
theorem li85_0_0 : (Code.loops lb85_0).getD 0 .skip = lb85_1 := by kernel_rfl
def rt85_1 : VT :=
  (.need (.bin .lt (.var 0) (.var 2)) (.c (.bin .le (.n 0) (.var 2)))
  (.need (.bin .lt (.var 0) (.var 2)) (.c (.bin .lt (.var 2) (.un .len (.var 3))))
  (.need (.bin .lt (.var 0) (.var 2)) (.c (.bin .le (.n 0) (.bin (.sub .i64) (.var 2) (.n 1))))
  (.need (.bin .lt (.var 0) (.var 2)) (.c (.bin .lt (.bin (.sub .i64) (.var 2) (.n 1)) (.un .len (.var 3))))
  (.need (.bin .lt (.var 0) (.var 2)) (.pre 24004 (.cons (.var 1) (.cons (.sel 0 (.var 3) (.var 2)) (.cons (.sel 0 (.var 3) (.bin (.sub .i64) (.var 2) (.n 1))) .nil))))
  (.lt (.app 24004 (.cons (.var 1) (.cons (.sel 0 (.var 3) (.var 2)) (.cons (.sel 0 (.var 3) (.bin (.sub .i64) (.var 2) (.n 1))) .nil))) 0) 1
  (.ite (.ite (.bin .lt (.var 0) (.var 2)) (.bin .lt (.var 4) (.n 0)) (.t false))
   (.need (.t true) (.c (.bin .le (.n 0) (.bin (.sub .i64) (.var 2) (.n 1))))
   (.need (.t true) (.c (.bin .lt (.bin (.sub .i64) (.var 2) (.n 1)) (.un .len (.var 3))))
   (.need (.t true) (.c (.bin .le (.n 0) (.var 2)))
   (.need (.t true) (.c (.bin .lt (.var 2) (.un .len (.var 3))))
   (.need (.t true) (.c (.bin .lt (.bin (.sub .i64) (.var 2) (.n 1)) (.un .len (.upd 0 (.var 3) (.var 2) (.cons (.sel 0 (.var 3) (.bin (.sub .i64) (.var 2) (.n 1))) .nil)))))
   (.ret (.cons (.n (-1)) (.cons (.bin (.sub .i64) (.var 2) (.n 1)) (.cons (.upd 0 (.upd 0 (.var 3) (.var 2) (.cons (.sel 0 (.var 3) (.bin (.sub .i64) (.var 2) (.n 1))) .nil)) (.bin (.sub .i64) (.var 2) (.n 1)) (.cons (.sel 0 (.var 3) (.var 2)) .nil)) .nil)))))))))
   (.ret (.cons (.n 0) (.cons (.var 2) (.cons (.var 3) .nil)))))))))))
theorem le85_1 : (loopVT Try.prog (sgOf sg85) (ltOf lt85) L85_1 lb85_1).slim L85_1.nv [] = rt85_1 := by kernel_rfl
theorem lf85_1 : (firstRegion lb85_1).bind (ltOf lt85) = some L85_1 := by kernel_rfl
theorem lk85_1 : (Code.loops lb85_1).length = 0 := by kernel_rfl
def vt85 : VT :=
  (.need (.t true) (.pre 18501 (.cons (.var 1) (.cons (.var 2) (.cons (.var 3) (.cons (.bin (.add .i64) (.var 1) (.n 1)) (.cons (.var 0) .nil))))))
  (.lt (.app 18501 (.cons (.var 1) (.cons (.var 2) (.cons (.var 3) (.cons (.bin (.add .i64) (.var 1) (.n 1)) (.cons (.var 0) .nil))))) 0) 3
  (.ret (.cons (.var 6) .nil))))
theorem e85 : (rowVT Try.prog (sgOf sg85) (ltOf lt85) (qRow S85) Try.f85 c85).slim (1 + ((qRow S85).2.2.map fun p => p.2.length).sum) [] = vt85 := by kernel_rfl
def S86 : Sig := ⟨[(false, [(.osl 3 [i6])]), (false, [i6]), (false, [i6]), (false, [i6]), (false, [.clo])], [], [], none⟩
noncomputable def c86 : Code := Try.f86.body.getD .skip
theorem b86 : Try.f86.body = some c86 := body_some (by kernel_rfl)
theorem n86 : (Try.f86.name == "runtime.NumGoroutine") = false := by kernel_rfl
def S73 : Sig := ⟨[(false, [(.osl 3 [i6])]), (false, [i6]), (false, [.clo])], [], [], none⟩
noncomputable def c73 : Code := Try.f73.body.getD .skip
theorem b73 : Try.f73.body = some c73 := body_some (by kernel_rfl)
theorem n73 : (Try.f73.name == "runtime.NumGoroutine") = false := by kernel_rfl
def sg73 : List (FuncId × Sig) := [(85, S85), (86, S86)]
def L73_0 : LoopSig := ⟨17300, [],
   ⟨[(.c (.row 0 1)), (.c (.x i6 (.var 0))), (.c (.x .clo (.var 1))), .any, .any, .any, (.c (.x i6 (.var 2))), (.c (.x i6 (.var 3))), (.c (.x i6 (.var 4))), .any, .any, .any, .any, .any, .any, .any, .any, .any, .any, .any, .any, .any, .any, .any, .any, .any, .any, .any, .any, .any, .any, .any, .any, .any, .any, .any, .any, .any, .any, .any, .any, .any, .any, .any, .any, .any, .any, .any, .any, .any, .any, .any, .any, .any, .any, .any, .any, .any, .any, .any, .any, .any, .any],
    [some ⟨(.t true), (.row 3 [i6] (.var 5) 1 false)⟩]⟩,
   6, [3, 4, 5], [11, 12, 13, 14, 15, 16, 17, 18, 19, 7, 20, 21, 22, 8], [(.exit 0)], []⟩
def L73_1 : LoopSig := ⟨17302, [],
   ⟨[(.c (.row 0 1)), (.c (.x i6 (.var 0))), (.c (.x .clo (.var 1))), .any, .any, .any, (.c (.x i6 (.var 2))), .any, .any, .any, .any, .any, .any, .any, .any, .any, .any, .any, .any, .any, .any, .any, .any, .any, .any, .any, .any, .any, .any, .any, .any, .any, .any, .any, .any, .any, .any, .any, .any, .any, .any, .any, .any, .any, .any, .any, .any, .any, .any, .any, .any, .any, .any, .any, .any, .any, .any, .any, .any, .any, .any, .any, .any],
    [some ⟨(.t true), (.row 3 [i6] (.var 3) 1 false)⟩]⟩,
   4, [2, 3], [28, 29, 30, 31, 32, 7, 8, 33, 34, 35, 36, 37, 38, 39, 40, 41, 42, 43, 44, 45, 46, 47, 48, 49, 50, 51, 9, 52, 53, 54, 55, 56, 57, 58, 59, 60, 61, 62, 6], [(.exit 2)], []⟩
def L73_2 : LoopSig := ⟨17301, [],
   ⟨[(.c (.row 0 1)), (.c (.x i6 (.var 0))), (.c (.x .clo (.var 1))), .any, .any, .any, (.c (.x i6 (.var 2))), (.c (.x i6 (.var 3))), (.c (.x i6 (.var 4))), .any, .any, .any, .any, .any, .any, .any, .any, .any, .any, .any, .any, .any, .any, .any, .any, .any, .any, .any, .any, .any, .any, .any, .any, .any, .any, .any, .any, .any, .any, .any, .any, .any, .any, .any, .any, .any, .any, .any, .any, .any, .any, .any, .any, .any, .any, .any, .any, .any, .any, .any, .any, .any, .any],
    [some ⟨(.t true), (.row 3 [i6] (.var 5) 1 false)⟩]⟩,
   6, [3, 4, 5], [33, 34, 35, 36, 37, 38, 39, 40, 41, 42, 43, 44, 7, 45, 46, 47, 48, 8], [(.exit 4)], []⟩
def lt73 : List (Nat × LoopSig) := [(2, L73_0), (7, L73_1), (9, L73_2)]
theorem k73 : (Code.loops c73).length = 3 := by kernel_rfl
noncomputable def lb73_0 : Code := (Code.loops c73).getD 0 .skip
noncomputable def lb73_1 : Code := (Code.loops c73).getD 1 .skip
noncomputable def lb73_2 : Code := (Code.loops c73).getD 2 .skip
def rt73_0 : VT :=
  (.ite (.bin .le (.var 4) (.var 0))
   (.need (.t true) (.pre 85 (.cons (.var 5) (.cons (.var 3) (.cons (.var 4) (.cons (.var 1) .nil)))))
   (.lt (.app 85 (.cons (.var 5) (.cons (.var 3) (.cons (.var 4) (.cons (.var 1) .nil)))) 0) 1
   (.ret (.cons (.n (-1)) (.cons (.var 4) (.cons (.bin (.add .i64) (.var 4) (.var 2)) (.cons (.var 6) .nil)))))))
   (.ret (.cons (.n 0) (.cons (.var 3) (.cons (.var 4) (.cons (.var 5) .nil))))))
theorem le73_0 : (loopVT Try.prog (sgOf sg73) (ltOf lt73) L73_0 lb73_0).slim L73_0.nv [] = rt73_0 := by kernel_rfl
theorem lf73_0 : (firstRegion lb73_0).bind (ltOf lt73) = some L73_0 := by kernel_rfl
theorem lk73_0 : (Code.loops lb73_0).length = 0 := by kernel_rfl
def rt73_1 : VT :=
  (.ite (.bin .lt (.var 2) (.var 0))
   (.need (.t true) (.pre 17301 (.cons (.var 0) (.cons (.var 1) (.cons (.var 2) (.cons (.n 0) (.cons (.bin (.mul .i64) (.n 2) (.var 2)) (.cons (.var 3) .nil)))))))
   (.lt (.app 17301 (.cons (.var 0) (.cons (.var 1) (.cons (.var 2) (.cons (.n 0) (.cons (.bin (.mul .i64) (.n 2) (.var 2)) (.cons (.var 3) .nil)))))) 0) 4
   (.ite (.bin .lt (.bin (.add .i64) (.var 5) (.var 2)) (.var 0))
    (.need (.t true) (.pre 86 (.cons (.var 7) (.cons (.var 5) (.cons (.bin (.add .i64) (.var 5) (.var 2)) (.cons (.var 0) (.cons (.var 1) .nil))))))
    (.lt (.app 86 (.cons (.var 7) (.cons (.var 5) (.cons (.bin (.add .i64) (.var 5) (.var 2)) (.cons (.var 0) (.cons (.var 1) .nil))))) 0) 1
    (.ret (.cons (.n (-1)) (.cons (.bin (.mul .i64) (.var 2) (.n 2)) (.cons (.var 8) .nil))))))
    (.ret (.cons (.n (-1)) (.cons (.bin (.mul .i64) (.var 2) (.n 2)) (.cons (.var 7) .nil)))))))
   (.ret (.cons (.n 0) (.cons (.var 2) (.cons (.var 3) .nil)))))
theorem le73_1 : (loopVT Try.prog (sgOf sg73) (ltOf lt73) L73_1 lb73_1).slim L73_1.nv [] = rt73_1 := by kernel_rfl
theorem lf73_1 : (firstRegion lb73_1).bind (ltOf lt73) = some L73_1 := by kernel_rfl
theorem lk73_1 : (Code.loops lb73_1).length = 1 := by kernel_rfl
theorem li73_1_0 : (Code.loops lb73_1).getD 0 .skip = lb73_2 := by kernel_rfl
def rt73_2 : VT :=
  (.ite (.bin .le (.var 4) (.var 0))
   (.need (.t true) (.pre 86 (.cons (.var 5) (.cons (.var 3) (.cons (.bin (.add .i64) (.var 3) (.var 2)) (.cons (.var 4) (.cons (.var 1) .nil))))))
   (.lt (.app 86 (.cons (.var 5) (.cons (.var 3) (.cons (.bin (.add .i64) (.var 3) (.var 2)) (.cons (.var 4) (.cons (.var 1) .nil))))) 0) 1
   (.ret (.cons (.n (-1)) (.cons (.var 4) (.cons (.bin (.add .i64) (.var 4) (.bin (.mul .i64) (.n 2) (.var 2))) (.cons (.var 6) .nil)))))))
   (.ret (.cons (.n 0) (.cons (.var 3) (.cons (.var 4) (.cons (.var 5) .nil))))))
theorem le73_2 : (loopVT Try.prog (sgOf sg73) (ltOf lt73) L73_2 lb73_2).slim L73_2.nv [] = rt73_2 := by kernel_rfl
theorem lf73_2 : (firstRegion lb73_2).bind (ltOf lt73) = some L73_2 := by kernel_rfl
theorem lk73_2 : (Code.loops lb73_2).length = 0 := by kernel_rfl
def vt73 : VT :=
  (.need (.t true) (.pre 17300 (.cons (.var 1) (.cons (.var 2) (.cons (.n 20) (.cons (.n 0) (.cons (.n 20) (.cons (.var 0) .nil)))))))
  (.lt (.app 17300 (.cons (.var 1) (.cons (.var 2) (.cons (.n 20) (.cons (.n 0) (.cons (.n 20) (.cons (.var 0) .nil)))))) 0) 4
  (.need (.t true) (.pre 85 (.cons (.var 6) (.cons (.var 4) (.cons (.var 1) (.cons (.var 2) .nil)))))
  (.lt (.app 85 (.cons (.var 6) (.cons (.var 4) (.cons (.var 1) (.cons (.var 2) .nil)))) 0) 1
  (.need (.t true) (.pre 17302 (.cons (.var 1) (.cons (.var 2) (.cons (.n 20) (.cons (.var 7) .nil)))))
  (.lt (.app 17302 (.cons (.var 1) (.cons (.var 2) (.cons (.n 20) (.cons (.var 7) .nil)))) 0) 3
  (.ret (.cons (.var 10) .nil))))))))
theorem e73 : (rowVT Try.prog (sgOf sg73) (ltOf lt73) (qRow S73) Try.f73 c73).slim (1 + ((qRow S73).2.2.map fun p => p.2.length).sum) [] = vt73 := by kernel_rfl
def S51 : Sig := ⟨[(false, [(.osl 3 [i6])]), (false, [.clo])], [], [], none⟩
noncomputable def c51 : Code := Try.f51.body.getD .skip
theorem b51 : Try.f51.body = some c51 := body_some (by kernel_rfl)
theorem n51 : (Try.f51.name == "runtime.NumGoroutine") = false := by kernel_rfl
def sg51 : List (FuncId × Sig) := [(73, S73)]
def lt51 : List (Nat × LoopSig) := []
theorem k51 : (Code.loops c51).length = 0 := by kernel_rfl
def vt51 : VT :=
  (.need (.t true) (.pre 73 (.cons (.var 0) (.cons (.un .len (.var 0)) (.cons (.var 1) .nil))))
  (.lt (.app 73 (.cons (.var 0) (.cons (.un .len (.var 0)) (.cons (.var 1) .nil))) 0) 1
  (.ret (.cons (.var 2) .nil))))
theorem e51 : (rowVT Try.prog (sgOf sg51) (ltOf lt51) (qRow S51) Try.f51 c51).slim (1 + ((qRow S51).2.2.map fun p => p.2.length).sum) [] = vt51 := by kernel_rfl
def S31 : Sig := ⟨[(true, [.str, .bool, (.sl 58 [.str, .str, i6, i6, i6, (.sl 103 [.str, i6])]), (.sl 75 [i6, i6, i6, i6, .str, i6, i6]), (.sl 52 [.str, i6])])], [(false, [(.sl 3 [i6])])], [], none⟩
noncomputable def c31 : Code := Try.f31.body.getD .skip
theorem b31 : Try.f31.body = some c31 := body_some (by kernel_rfl)
theorem n31 : (Try.f31.name == "runtime.NumGoroutine") = false := by kernel_rfl
def sg31 : List (FuncId × Sig) := [(51, S51)]
def L31_0 : LoopSig := ⟨13100, [(3, none, 3)],
   ⟨[.any, .any, .any, (.c (.row 1 1)), .any, .any, .any, (.c (.x i6 (.var 0))), (.c (.x i6 (.var 1))), .any, .any, .any, .any, .any, .any, .any, .any, .any, .any, .any],
    [none, some ⟨(.t true), (.row 3 [i6] (.var 2) 1 false)⟩]⟩,
   3, [1, 2], [9, 10, 4, 11, 12, 13, 14, 3, 15, 8], [(.exit 0)], [2]⟩
def lt31 : List (Nat × LoopSig) := [(3, L31_0)]
theorem k31 : (Code.loops c31).length = 1 := by kernel_rfl
noncomputable def lb31_0 : Code := (Code.loops c31).getD 0 .skip
def rt31_0 : VT :=
  (.ite (.bin .lt (.var 1) (.var 0))
   (.need (.t true) (.c (.bin .le (.un .len (.bin .cat (.var 2) (.lcons (.cons (.var 1) .nil) .lnil))) (.n 17592186044416)))
   (.ret (.cons (.n (-1)) (.cons (.bin (.add .i64) (.var 1) (.n 1)) (.cons (.bin .cat (.var 2) (.lcons (.cons (.var 1) .nil) .lnil)) .nil)))))
   (.ret (.cons (.n 0) (.cons (.var 1) (.cons (.var 2) .nil)))))
theorem le31_0 : (loopVT Try.prog (sgOf sg31) (ltOf lt31) L31_0 lb31_0).slim L31_0.nv [] = rt31_0 := by kernel_rfl
theorem lf31_0 : (firstRegion lb31_0).bind (ltOf lt31) = some L31_0 := by kernel_rfl
theorem lk31_0 : (Code.loops lb31_0).length = 0 := by kernel_rfl
def vt31 : VT :=
  (.need (.t true) (.pre 13100 (.cons (.un .len (.var 4)) (.cons (.n 0) (.cons .lnil .nil))))
  (.lt (.app 13100 (.cons (.un .len (.var 4)) (.cons (.n 0) (.cons .lnil .nil))) 0) 3
  (.need (.t true) (.pre 51 (.cons (.var 7) (.cons (.clo 52 [(.pt [.str, .bool, (.sl 58 [.str, .str, i6, i6, i6, (.sl 103 [.str, i6])]), (.sl 75 [i6, i6, i6, i6, .str, i6, i6]), (.sl 52 [.str, i6])])] (.cons (.pk (.cons (.var 0) (.cons (.var 1) (.cons (.var 2) (.cons (.var 3) (.cons (.var 4) .nil)))))) .nil)) .nil)))
  (.lt (.app 51 (.cons (.var 7) (.cons (.clo 52 [(.pt [.str, .bool, (.sl 58 [.str, .str, i6, i6, i6, (.sl 103 [.str, i6])]), (.sl 75 [i6, i6, i6, i6, .str, i6, i6]), (.sl 52 [.str, i6])])] (.cons (.pk (.cons (.var 0) (.cons (.var 1) (.cons (.var 2) (.cons (.var 3) (.cons (.var 4) .nil)))))) .nil)) .nil)) 0) 1
  (.ret (.cons (.var 8) .nil))))))
theorem e31 : (fnVT Try.prog (sgOf sg31) (ltOf lt31) S31 Try.f31 c31).slim (S31.ps.map fun p => p.2.length).sum [] = vt31 := by kernel_rfl
def S32 : Sig := ⟨[(false, [(.sl 60 [i6, i6])])], [(false, [(.osl 60 [i6, i6])])], [], none⟩
noncomputable def c32 : Code := Try.f32.body.getD .skip
theorem b32 : Try.f32.body = some c32 := body_some (by kernel_rfl)
theorem n32 : (Try.f32.name == "runtime.NumGoroutine") = false := by kernel_rfl
def S24 : Sig := ⟨[(true, [i6, i6, i6, i6, i6, i6, (.sl 60 [i6, i6]), .str])], [(false, [.bool])], [], none⟩
noncomputable def c24 : Code := Try.f24.body.getD .skip
theorem b24 : Try.f24.body = some c24 := body_some (by kernel_rfl)
theorem n24 : (Try.f24.name == "runtime.NumGoroutine") = false := by kernel_rfl
def sg24 : List (FuncId × Sig) := []
def lt24 : List (Nat × LoopSig) := []
theorem k24 : (Code.loops c24).length = 0 := by kernel_rfl
def vt24 : VT :=
  (.ret (.cons (.ite (.bin .le (.n 1) (.var 0)) (.bin .le (.var 0) (.n 4)) (.t false)) .nil))
theorem e24 : (fnVT Try.prog (sgOf sg24) (ltOf lt24) S24 Try.f24 c24).slim (S24.ps.map fun p => p.2.length).sum [] = vt24 := by kernel_rfl
def T24 : FuncId → List D → List D := tabOf []
def fn24 (ρ : List D) : List D := vt24.val T24 ρ
theorem m24 : Meets Try.prog 24 S24 (fun _ => True) fn24 := meets_easy (sgl := sg24) (Φ := T24) mixed ((fun _ h => nomatch h)) Try.func24 b24 n24 k24 e24 (by kernel_rfl)
def S25 : Sig := ⟨[(true, [i6, i6, i6, i6, i6, i6, (.sl 60 [i6, i6]), .str])], [(false, [.ifc])], [], none⟩
noncomputable def c25 : Code := Try.f25.body.getD .skip
theorem b25 : Try.f25.body = some c25 := body_some (by kernel_rfl)
theorem n25 : (Try.f25.name == "runtime.NumGoroutine") = false := by kernel_rfl
def sg25 : List (FuncId × Sig) := []
def lt25 : List (Nat × LoopSig) := []
theorem k25 : (Code.loops c25).length = 0 := by kernel_rfl
def vt25 : VT :=
  (.ite (.bin .eq (.var 0) (.n 3))
   (.ret (.cons (.clo 85 [(.sl 60 [i6, i6])] (.cons (.var 6) .nil)) .nil))
   (.ret (.cons (.clo 87 [i6, i6, i6, i6] (.cons (.var 2) (.cons (.var 3) (.cons (.var 4) (.cons (.var 5) .nil))))) .nil)))
theorem e25 : (fnVT Try.prog (sgOf sg25) (ltOf lt25) S25 Try.f25 c25).slim (S25.ps.map fun p => p.2.length).sum [] = vt25 := by kernel_rfl
def T25 : FuncId → List D → List D := tabOf []
def fn25 (ρ : List D) : List D := vt25.val T25 ρ
theorem m25 : Meets Try.prog 25 S25 (fun _ => True) fn25 := meets_easy (sgl := sg25) (Φ := T25) mixed ((fun _ h => nomatch h)) Try.func25 b25 n25 k25 e25 (by kernel_rfl)
def S108 : Sig := ⟨[(false, [(.sl 60 [i6, i6])])], [(false, [.bool])], [], none⟩
noncomputable def c108 : Code := Try.f108.body.getD .skip
theorem b108 : Try.f108.body = some c108 := body_some (by kernel_rfl)
theorem n108 : (Try.f108.name == "runtime.NumGoroutine") = false := by kernel_rfl
def sg108 : List (FuncId × Sig) := []
def L108_0 : LoopSig := ⟨20800, [],
   ⟨[(.c (.x (.sl 60 [i6, i6]) (.var 0))), .any, (.c (.x .bool (.var 1))), (.c (.x i6 (.var 2))), .any, .any, .any, .any, .any, .any, .any, .any, .any, .any, .any, .any, .any, .any, .any, .any],
    []⟩,
   3, [1, 2], [4, 5, 6, 7, 10, 11, 12, 13, 14, 15, 16, 17, 18, 19, 2, 8, 9, 3], [.ret, (.exit 0)], []⟩
def lt108 : List (Nat × LoopSig) := [(2, L108_0)]
theorem k108 : (Code.loops c108).length = 1 := by kernel_rfl
noncomputable def lb108_0 : Code := (Code.loops c108).getD 0 .skip
def rt108_0 : VT :=
  (.ite (.bin .lt (.var 2) (.un .len (.var 0)))
   (.need (.t true) (.c (.bin .le (.n 0) (.bin (.sub .i64) (.var 2) (.n 1))))
   (.need (.t true) (.c (.bin .lt (.bin (.sub .i64) (.var 2) (.n 1)) (.un .len (.var 0))))
   (.need (.t true) (.c (.bin .le (.n 0) (.var 2)))
   (.ite (.ite (.bin .eq (.sel 0 (.var 0) (.bin (.sub .i64) (.var 2) (.n 1))) (.sel 0 (.var 0) (.var 2))) (.bin .eq (.sel 1 (.var 0) (.bin (.sub .i64) (.var 2) (.n 1))) (.sel 1 (.var 0) (.var 2))) (.t false))
    (.ret (.cons (.n 0) (.cons (.t false) (.cons (.var 2) .nil))))
    (.ret (.cons (.n (-1)) (.cons (.var 1) (.cons (.bin (.add .i64) (.var 2) (.n 1)) .nil))))))))
   (.ret (.cons (.n 1) (.cons (.var 1) (.cons (.var 2) .nil)))))
theorem le108_0 : (loopVT Try.prog (sgOf sg108) (ltOf lt108) L108_0 lb108_0).slim L108_0.nv [] = rt108_0 := by kernel_rfl
theorem lf108_0 : (firstRegion lb108_0).bind (ltOf lt108) = some L108_0 := by kernel_rfl
theorem lk108_0 : (Code.loops lb108_0).length = 0 := by kernel_rfl
def vt108 : VT :=
  (.need (.t true) (.pre 20800 (.cons (.var 0) (.cons (.t false) (.cons (.n 1) .nil))))
  (.lt (.app 20800 (.cons (.var 0) (.cons (.t false) (.cons (.n 1) .nil))) 0) 3
  (.ite (.bin .eq (.var 1) (.n 0))
   (.ret (.cons (.var 2) .nil))
   (.ret (.cons (.t true) .nil)))))
theorem e108 : (fnVT Try.prog (sgOf sg108) (ltOf lt108) S108 Try.f108 c108).slim (S108.ps.map fun p => p.2.length).sum [] = vt108 := by kernel_rfl
def S112 : Sig := ⟨[(false, [(.sl 60 [i6, i6])]), (false, [.clo])], [(false, [i6])], [], none⟩
noncomputable def c112 : Code := Try.f112.body.getD .skip
theorem b112 : Try.f112.body = some c112 := body_some (by kernel_rfl)
theorem n112 : (Try.f112.name == "runtime.NumGoroutine") = false := by kernel_rfl
def sg112 : List (FuncId × Sig) := [(20061, S20061)]
def L112_0 : LoopSig := ⟨21200, [],
   ⟨[(.c (.x (.sl 60 [i6, i6]) (.var 0))), (.c (.x .clo (.var 1))), .any, .any, (.c (.x i6 (.var 2))), .any, .any, (.c (.x i6 (.var 3))), (.c (.x i6 (.var 4))), .any, .any, .any, .any, .any, .any, .any, .any, .any, .any],
    []⟩,
   5, [2, 4], [9, 10, 5, 11, 12, 13, 14, 15, 16, 17, 4, 18, 8], [.ret, (.exit 0)], []⟩
def lt112 : List (Nat × LoopSig) := [(2, L112_0)]
theorem k112 : (Code.loops c112).length = 1 := by kernel_rfl
noncomputable def lb112_0 : Code := (Code.loops c112).getD 0 .skip
def rt112_0 : VT :=
  (.ite (.bin .lt (.var 4) (.var 3))
   (.need (.t true) (.c (.bin .le (.n 0) (.var 4)))
   (.need (.t true) (.c (.bin .lt (.var 4) (.un .len (.var 0))))
   (.need (.t true) (.pre 20061 (.cons (.var 1) (.cons (.sel 0 (.var 0) (.var 4)) (.cons (.sel 1 (.var 0) (.var 4)) .nil))))
   (.lt (.app 20061 (.cons (.var 1) (.cons (.sel 0 (.var 0) (.var 4)) (.cons (.sel 1 (.var 0) (.var 4)) .nil))) 0) 1
   (.ite (.var 5)
    (.ret (.cons (.n 0) (.cons (.var 4) (.cons (.var 4) .nil))))
    (.ret (.cons (.n (-1)) (.cons (.var 2) (.cons (.bin (.add .i64) (.var 4) (.n 1)) .nil)))))))))
   (.ret (.cons (.n 1) (.cons (.var 2) (.cons (.var 4) .nil)))))
theorem le112_0 : (loopVT Try.prog (sgOf sg112) (ltOf lt112) L112_0 lb112_0).slim L112_0.nv [] = rt112_0 := by kernel_rfl
theorem lf112_0 : (firstRegion lb112_0).bind (ltOf lt112) = some L112_0 := by kernel_rfl
theorem lk112_0 : (Code.loops lb112_0).length = 0 := by kernel_rfl
def vt112 : VT :=
  (.need (.t true) (.pre 21200 (.cons (.var 0) (.cons (.var 1) (.cons (.n 0) (.cons (.un .len (.var 0)) (.cons (.n 0) .nil))))))
  (.lt (.app 21200 (.cons (.var 0) (.cons (.var 1) (.cons (.n 0) (.cons (.un .len (.var 0)) (.cons (.n 0) .nil))))) 0) 3
  (.ite (.bin .eq (.var 2) (.n 0))
   (.ret (.cons (.var 3) .nil))
   (.ret (.cons (.n (-1)) .nil)))))
theorem e112 : (fnVT Try.prog (sgOf sg112) (ltOf lt112) S112 Try.f112 c112).slim (S112.ps.map fun p => p.2.length).sum [] = vt112 := by kernel_rfl
def S110 : Sig := ⟨[(false, [(.sl 60 [i6, i6])]), (false, [.clo])], [(false, [.bool])], [], none⟩
noncomputable def c110 : Code := Try.f110.body.getD .skip
theorem b110 : Try.f110.body = some c110 := body_some (by kernel_rfl)
theorem n110 : (Try.f110.name == "runtime.NumGoroutine") = false := by kernel_rfl
def sg110 : List (FuncId × Sig) := [(112, S112)]
def lt110 : List (Nat × LoopSig) := []
theorem k110 : (Code.loops c110).length = 0 := by kernel_rfl
def vt110 : VT :=
  (.need (.t true) (.pre 112 (.cons (.var 0) (.cons (.var 1) .nil)))
  (.lt (.app 112 (.cons (.var 0) (.cons (.var 1) .nil)) 0) 1
  (.ret (.cons (.bin .le (.n 0) (.var 2)) .nil))))
theorem e110 : (fnVT Try.prog (sgOf sg110) (ltOf lt110) S110 Try.f110 c110).slim (S110.ps.map fun p => p.2.length).sum [] = vt110 := by kernel_rfl
def S55 : Sig := ⟨[(true, [i6, i6])], [(false, [.bool])], [], none⟩
noncomputable def c55 : Code := Try.f55.body.getD .skip
theorem b55 : Try.f55.body = some c55 := body_some (by kernel_rfl)
theorem n55 : (Try.f55.name == "runtime.NumGoroutine") = false := by kernel_rfl
def sg55 : List (FuncId × Sig) := []
def lt55 : List (Nat × LoopSig) := []
theorem k55 : (Code.loops c55).length = 0 := by kernel_rfl
def vt55 : VT :=
  (.ret (.cons (.ite (.ite (.ite (.bin .le (.n (-268435456)) (.var 0)) (.bin .le (.var 0) (.n 268435456)) (.t false)) (.bin .le (.n (-268435456)) (.var 1)) (.t false)) (.bin .le (.var 1) (.n 268435456)) (.t false)) .nil))
theorem e55 : (fnVT Try.prog (sgOf sg55) (ltOf lt55) S55 Try.f55 c55).slim (S55.ps.map fun p => p.2.length).sum [] = vt55 := by kernel_rfl
def T55 : FuncId → List D → List D := tabOf []
def fn55 (ρ : List D) : List D := vt55.val T55 ρ
theorem m55 : Meets Try.prog 55 S55 (fun _ => True) fn55 := meets_easy (sgl := sg55) (Φ := T55) mixed ((fun _ h => nomatch h)) Try.func55 b55 n55 k55 e55 (by kernel_rfl)
def S111 : Sig := ⟨[(true, [i6, i6])], [(false, [.bool])], [], none⟩
noncomputable def c111 : Code := Try.f111.body.getD .skip
theorem b111 : Try.f111.body = some c111 := body_some (by kernel_rfl)
theorem n111 : (Try.f111.name == "runtime.NumGoroutine") = false := by kernel_rfl
def sg111 : List (FuncId × Sig) := [(55, S55)]
def lt111 : List (Nat × LoopSig) := []
theorem k111 : (Code.loops c111).length = 0 := by kernel_rfl
def vt111 : VT :=
  (.need (.t true) (.pre 55 (.cons (.var 0) (.cons (.var 1) .nil)))
  (.lt (.app 55 (.cons (.var 0) (.cons (.var 1) .nil)) 0) 1
  (.ret (.cons (.un .not (.var 2)) .nil))))
theorem e111 : (fnVT Try.prog (sgOf sg111) (ltOf lt111) S111 Try.f111 c111).slim (S111.ps.map fun p => p.2.length).sum [] = vt111 := by kernel_rfl
def T111 : FuncId → List D → List D := tabOf [(55, fn55)]
def fn111 (ρ : List D) : List D := vt111.val T111 ρ
theorem m111 : Meets Try.prog 111 S111 (fun _ => True) fn111 := meets_easy (sgl := sg111) (Φ := T111) mixed (List.forall_mem_cons.2 ⟨m55, (fun _ h => nomatch h)⟩) Try.func111 b111 n111 k111 e111 (by kernel_rfl)
def S109 : Sig := ⟨[(false, [(.sl 60 [i6, i6])])], [(false, [.bool])], [], none⟩
noncomputable def c109 : Code := Try.f109.body.getD .skip
theorem b109 : Try.f109.body = some c109 := body_some (by kernel_rfl)
theorem n109 : (Try.f109.name == "runtime.NumGoroutine") = false := by kernel_rfl
def sg109 : List (FuncId × Sig) := [(110, S110)]
def lt109 : List (Nat × LoopSig) := []
theorem k109 : (Code.loops c109).length = 0 := by kernel_rfl
def vt109 : VT :=
  (.need (.ite (.bin .le (.n 1) (.un .len (.var 0))) (.bin .le (.un .len (.var 0)) (.n 512)) (.t false)) (.pre 110 (.cons (.var 0) (.cons (.clo 111 [] .nil) .nil)))
  (.lt (.app 110 (.cons (.var 0) (.cons (.clo 111 [] .nil) .nil)) 0) 1
  (.ret (.cons (.ite (.ite (.bin .le (.n 1) (.un .len (.var 0))) (.bin .le (.un .len (.var 0)) (.n 512)) (.t false)) (.un .not (.var 1)) (.t false)) .nil))))
theorem e109 : (fnVT Try.prog (sgOf sg109) (ltOf lt109) S109 Try.f109 c109).slim (S109.ps.map fun p => p.2.length).sum [] = vt109 := by kernel_rfl
def S107 : Sig := ⟨[(false, [(.sl 60 [i6, i6])])], [(false, [.bool])], [], none⟩
noncomputable def c107 : Code := Try.f107.body.getD .skip
theorem b107 : Try.f107.body = some c107 := body_some (by kernel_rfl)
theorem n107 : (Try.f107.name == "runtime.NumGoroutine") = false := by kernel_rfl
def sg107 : List (FuncId × Sig) := [(108, S108), (109, S109)]
def lt107 : List (Nat × LoopSig) := []
theorem k107 : (Code.loops c107).length = 0 := by kernel_rfl
def vt107 : VT :=
  (.need (.t true) (.pre 108 (.cons (.var 0) .nil))
  (.lt (.app 108 (.cons (.var 0) .nil) 0) 1
  (.need (.var 1) (.pre 109 (.cons (.var 0) .nil))
  (.lt (.app 109 (.cons (.var 0) .nil) 0) 1
  (.ret (.cons (.ite (.var 1) (.var 2) (.t false)) .nil))))))
theorem e107 : (fnVT Try.prog (sgOf sg107) (ltOf lt107) S107 Try.f107 c107).slim (S107.ps.map fun p => p.2.length).sum [] = vt107 := by kernel_rfl
def S106 : Sig := ⟨[(false, [(.sl 60 [i6, i6])])], [(true, [i6, i6, i6, i6])], [], none⟩
noncomputable def c106 : Code := Try.f106.body.getD .skip
theorem b106 : Try.f106.body = some c106 := body_some (by kernel_rfl)
theorem n106 : (Try.f106.name == "runtime.NumGoroutine") = false := by kernel_rfl
def sg106 : List (FuncId × Sig) := [(107, S107)]
def L106_0 : LoopSig := ⟨20600, [],
   ⟨[.any, .any, .any, (.c (.ptr 1 0)), .any, .any, .any, .any, .any, .any, .any, .any, .any, .any, .any, .any, .any, .any, .any, .any, .any, .any, .any, .any, .any, .any, .any, (.c (.x (.sl 60 [i6, i6]) (.var 0))), (.c (.x i6 (.var 1))), (.c (.x i6 (.var 2))), .any, .any, .any, .any, .any, .any, .any, .any, .any, .any, .any, .any, .any, .any, .any, .any, .any, .any, .any, .any, .any, .any, .any, .any, .any, .any],
    [none, some ⟨(.t true), (.box 23 [(.x i6 (.var 3)), (.x i6 (.var 4)), (.x i6 (.var 5)), (.x i6 (.var 6))] false)⟩]⟩,
   7, [2, 3, 4, 5, 6], [30, 31, 32, 5, 33, 34, 35, 36, 37, 38, 39, 40, 41, 42, 43, 44, 45, 46, 47, 48, 49, 50, 51, 52, 53, 54, 29], [(.exit 0)], []⟩
def lt106 : List (Nat × LoopSig) := [(5, L106_0)]
theorem k106 : (Code.loops c106).length = 1 := by kernel_rfl
noncomputable def lb106_0 : Code := (Code.loops c106).getD 0 .skip
def rt106_0 : VT :=
  (.ite (.bin .lt (.var 2) (.var 1))
   (.need (.t true) (.c (.bin .le (.n 0) (.var 2)))
   (.need (.t true) (.c (.bin .lt (.var 2) (.un .len (.var 0))))
   (.ret (.cons (.n (-1)) (.cons (.bin (.add .i64) (.var 2) (.n 1)) (.cons (.bin .min (.var 3) (.sel 0 (.var 0) (.var 2))) (.cons (.bin .min (.var 4) (.sel 1 (.var 0) (.var 2))) (.cons (.bin .max (.var 5) (.sel 0 (.var 0) (.var 2))) (.cons (.bin .max (.var 6) (.sel 1 (.var 0) (.var 2))) .nil)))))))))
   (.ret (.cons (.n 0) (.cons (.var 2) (.cons (.var 3) (.cons (.var 4) (.cons (.var 5) (.cons (.var 6) .nil))))))))
theorem le106_0 : (loopVT Try.prog (sgOf sg106) (ltOf lt106) L106_0 lb106_0).slim L106_0.nv [] = rt106_0 := by kernel_rfl
theorem lf106_0 : (firstRegion lb106_0).bind (ltOf lt106) = some L106_0 := by kernel_rfl
theorem lk106_0 : (Code.loops lb106_0).length = 0 := by kernel_rfl
def vt106 : VT :=
  (.need (.t true) (.pre 107 (.cons (.var 0) .nil))
  (.lt (.app 107 (.cons (.var 0) .nil) 0) 1
  (.ite (.un .not (.var 1))
   (.ret (.cons (.n 0) (.cons (.n 0) (.cons (.n 0) (.cons (.n 0) .nil)))))
   (.need (.t true) (.c (.bin .lt (.n 0) (.un .len (.var 0))))
   (.need (.t true) (.pre 20600 (.cons (.var 0) (.cons (.un .len (.var 0)) (.cons (.n 0) (.cons (.sel 0 (.var 0) (.n 0)) (.cons (.sel 1 (.var 0) (.n 0)) (.cons (.sel 0 (.var 0) (.n 0)) (.cons (.sel 1 (.var 0) (.n 0)) .nil))))))))
   (.lt (.app 20600 (.cons (.var 0) (.cons (.un .len (.var 0)) (.cons (.n 0) (.cons (.sel 0 (.var 0) (.n 0)) (.cons (.sel 1 (.var 0) (.n 0)) (.cons (.sel 0 (.var 0) (.n 0)) (.cons (.sel 1 (.var 0) (.n 0)) .nil))))))) 0) 6
   (.ret (.cons (.var 4) (.cons (.var 5) (.cons (.var 6) (.cons (.var 7) .nil)))))))))))
theorem e106 : (fnVT Try.prog (sgOf sg106) (ltOf lt106) S106 Try.f106 c106).slim (S106.ps.map fun p => p.2.length).sum [] = vt106 := by kernel_rfl
def S105 : Sig := ⟨[(true, [(.sl 60 [i6, i6])])], [(true, [i6, i6, i6, i6]), (false, [.bool])], [], none⟩
noncomputable def c105 : Code := Try.f105.body.getD .skip
theorem b105 : Try.f105.body = some c105 := body_some (by kernel_rfl)
theorem n105 : (Try.f105.name == "runtime.NumGoroutine") = false := by kernel_rfl
def sg105 : List (FuncId × Sig) := [(106, S106), (107, S107)]
def lt105 : List (Nat × LoopSig) := []
theorem k105 : (Code.loops c105).length = 0 := by kernel_rfl
def vt105 : VT :=
  (.need (.t true) (.pre 106 (.cons (.var 0) .nil))
  (.lt (.app 106 (.cons (.var 0) .nil) 0) 4
  (.need (.t true) (.pre 107 (.cons (.var 0) .nil))
  (.lt (.app 107 (.cons (.var 0) .nil) 0) 1
  (.ret (.cons (.var 1) (.cons (.var 2) (.cons (.var 3) (.cons (.var 4) (.cons (.var 5) .nil))))))))))
theorem e105 : (fnVT Try.prog (sgOf sg105) (ltOf lt105) S105 Try.f105 c105).slim (S105.ps.map fun p => p.2.length).sum [] = vt105 := by kernel_rfl
def S35 : Sig := ⟨[(true, [i6, i6, i6, i6])], [(false, [.bool])], [], none⟩
noncomputable def c35 : Code := Try.f35.body.getD .skip
theorem b35 : Try.f35.body = some c35 := body_some (by kernel_rfl)
theorem n35 : (Try.f35.name == "runtime.NumGoroutine") = false := by kernel_rfl
def sg35 : List (FuncId × Sig) := [(55, S55)]
def lt35 : List (Nat × LoopSig) := []
theorem k35 : (Code.loops c35).length = 0 := by kernel_rfl
def vt35 : VT :=
  (.need (.t true) (.pre 55 (.cons (.var 0) (.cons (.var 1) .nil)))
  (.lt (.app 55 (.cons (.var 0) (.cons (.var 1) .nil)) 0) 1
  (.need (.var 4) (.pre 55 (.cons (.var 2) (.cons (.var 3) .nil)))
  (.lt (.app 55 (.cons (.var 2) (.cons (.var 3) .nil)) 0) 1
  (.ret (.cons (.ite (.ite (.ite (.var 4) (.var 5) (.t false)) (.bin .le (.var 0) (.var 2)) (.t false)) (.bin .le (.var 1) (.var 3)) (.t false)) .nil))))))
theorem e35 : (fnVT Try.prog (sgOf sg35) (ltOf lt35) S35 Try.f35 c35).slim (S35.ps.map fun p => p.2.length).sum [] = vt35 := by kernel_rfl
def T35 : FuncId → List D → List D := tabOf [(55, fn55)]
def fn35 (ρ : List D) : List D := vt35.val T35 ρ
theorem m35 : Meets Try.prog 35 S35 (fun _ => True) fn35 := meets_easy (sgl := sg35) (Φ := T35) mixed (List.forall_mem_cons.2 ⟨m55, (fun _ h => nomatch h)⟩) Try.func35 b35 n35 k35 e35 (by kernel_rfl)
def S113 : Sig := ⟨[(true, [i6, i6, i6, i6])], [(true, [i6, i6, i6, i6]), (false, [.bool])], [], none⟩
noncomputable def c113 : Code := Try.f113.body.getD .skip
theorem b113 : Try.f113.body = some c113 := body_some (by kernel_rfl)
theorem n113 : (Try.f113.name == "runtime.NumGoroutine") = false := by kernel_rfl
def sg113 : List (FuncId × Sig) := [(35, S35)]
def lt113 : List (Nat × LoopSig) := []
theorem k113 : (Code.loops c113).length = 0 := by kernel_rfl
def vt113 : VT :=
  (.need (.t true) (.pre 35 (.cons (.var 0) (.cons (.var 1) (.cons (.var 2) (.cons (.var 3) .nil)))))
  (.lt (.app 35 (.cons (.var 0) (.cons (.var 1) (.cons (.var 2) (.cons (.var 3) .nil)))) 0) 1
  (.ret (.cons (.var 0) (.cons (.var 1) (.cons (.var 2) (.cons (.var 3) (.cons (.var 4) .nil))))))))
theorem e113 : (fnVT Try.prog (sgOf sg113) (ltOf lt113) S113 Try.f113 c113).slim (S113.ps.map fun p => p.2.length).sum [] = vt113 := by kernel_rfl
def T113 : FuncId → List D → List D := tabOf [(35, fn35)]
def fn113 (ρ : List D) : List D := vt113.val T113 ρ
theorem m113 : Meets Try.prog 113 S113 (fun _ => True) fn113 := meets_easy (sgl := sg113) (Φ := T113) mixed (List.forall_mem_cons.2 ⟨m35, (fun _ h => nomatch h)⟩) Try.func113 b113 n113 k113 e113 (by kernel_rfl)
def S26 : Sig := ⟨[(false, [(.sl 23 [i6, i6, i6, i6])])], [(true, [i6, i6, i6, i6])], [], none⟩
noncomputable def c26 : Code := Try.f26.body.getD .skip
theorem b26 : Try.f26.body = some c26 := body_some (by kernel_rfl)
theorem n26 : (Try.f26.name == "runtime.NumGoroutine") = false := by kernel_rfl
def sg26 : List (FuncId × Sig) := [(35, S35)]
def L26_0 : LoopSig := ⟨12600, [],
   ⟨[.any, .any, .any, (.c (.ptr 1 0)), (.c (.x .bool (.var 0))), .any, .any, (.c (.x (.sl 23 [i6, i6, i6, i6]) (.var 1))), (.c (.x i6 (.var 2))), (.c (.x i6 (.var 3))), .any, .any, .any, .any, .any, .any, .any, .any, .any, .any, .any, .any, .any, .any, .any, .any, .any, .any, .any, .any, .any, .any, .any, .any, .any, .any, .any, .any, .any, .any, .any, .any, .any],
    [none, some ⟨(.t true), (.box 23 [(.x i6 (.var 4)), (.x i6 (.var 5)), (.x i6 (.var 6)), (.x i6 (.var 7))] false)⟩]⟩,
   8, [0, 3, 4, 5, 6, 7], [10, 11, 12, 6, 35, 36, 37, 34, 39, 38, 40, 4, 13, 14, 15, 16, 17, 18, 19, 20, 21, 22, 23, 24, 25, 26, 27, 28, 29, 30, 31, 32, 33, 41, 9], [(.exit 0)], []⟩
def lt26 : List (Nat × LoopSig) := [(4, L26_0)]
theorem k26 : (Code.loops c26).length = 1 := by kernel_rfl
noncomputable def lb26_0 : Code := (Code.loops c26).getD 0 .skip
def rt26_0 : VT :=
  (.ite (.bin .lt (.var 3) (.var 2))
   (.need (.t true) (.c (.bin .le (.n 0) (.var 3)))
   (.need (.t true) (.c (.bin .lt (.var 3) (.un .len (.var 1))))
   (.need (.t true) (.pre 35 (.cons (.sel 0 (.var 1) (.var 3)) (.cons (.sel 1 (.var 1) (.var 3)) (.cons (.sel 2 (.var 1) (.var 3)) (.cons (.sel 3 (.var 1) (.var 3)) .nil)))))
   (.lt (.app 35 (.cons (.sel 0 (.var 1) (.var 3)) (.cons (.sel 1 (.var 1) (.var 3)) (.cons (.sel 2 (.var 1) (.var 3)) (.cons (.sel 3 (.var 1) (.var 3)) .nil)))) 0) 1
   (.ite (.un .not (.var 8))
    (.ret (.cons (.n (-1)) (.cons (.var 0) (.cons (.bin (.add .i64) (.var 3) (.n 1)) (.cons (.var 4) (.cons (.var 5) (.cons (.var 6) (.cons (.var 7) .nil))))))))
    (.ite (.var 0)
     (.ret (.cons (.n (-1)) (.cons (.t false) (.cons (.bin (.add .i64) (.var 3) (.n 1)) (.cons (.sel 0 (.var 1) (.var 3)) (.cons (.sel 1 (.var 1) (.var 3)) (.cons (.sel 2 (.var 1) (.var 3)) (.cons (.sel 3 (.var 1) (.var 3)) .nil))))))))
     (.ret (.cons (.n (-1)) (.cons (.var 0) (.cons (.bin (.add .i64) (.var 3) (.n 1)) (.cons (.bin .min (.var 4) (.sel 0 (.var 1) (.var 3))) (.cons (.bin .min (.var 5) (.sel 1 (.var 1) (.var 3))) (.cons (.bin .max (.var 6) (.sel 2 (.var 1) (.var 3))) (.cons (.bin .max (.var 7) (.sel 3 (.var 1) (.var 3))) .nil))))))))))))))
   (.ret (.cons (.n 0) (.cons (.var 0) (.cons (.var 3) (.cons (.var 4) (.cons (.var 5) (.cons (.var 6) (.cons (.var 7) .nil)))))))))
theorem le26_0 : (loopVT Try.prog (sgOf sg26) (ltOf lt26) L26_0 lb26_0).slim L26_0.nv [] = rt26_0 := by kernel_rfl
theorem lf26_0 : (firstRegion lb26_0).bind (ltOf lt26) = some L26_0 := by kernel_rfl
theorem lk26_0 : (Code.loops lb26_0).length = 0 := by kernel_rfl
def vt26 : VT :=
  (.need (.t true) (.pre 12600 (.cons (.t true) (.cons (.var 0) (.cons (.un .len (.var 0)) (.cons (.n 0) (.cons (.n 0) (.cons (.n 0) (.cons (.n 0) (.cons (.n 0) .nil)))))))))
  (.lt (.app 12600 (.cons (.t true) (.cons (.var 0) (.cons (.un .len (.var 0)) (.cons (.n 0) (.cons (.n 0) (.cons (.n 0) (.cons (.n 0) (.cons (.n 0) .nil)))))))) 0) 7
  (.ret (.cons (.var 4) (.cons (.var 5) (.cons (.var 6) (.cons (.var 7) .nil)))))))
theorem e26 : (fnVT Try.prog (sgOf sg26) (ltOf lt26) S26 Try.f26 c26).slim (S26.ps.map fun p => p.2.length).sum [] = vt26 := by kernel_rfl
def S13 : Sig := ⟨[(false, [(.sl 50 [i6, i6, i6, i6, i6, i6, (.sl 60 [i6, i6]), .str])])], [(true, [i6, i6, i6, i6])], [], none⟩
noncomputable def c13 : Code := Try.f13.body.getD .skip
theorem b13 : Try.f13.body = some c13 := body_some (by kernel_rfl)
theorem n13 : (Try.f13.name == "runtime.NumGoroutine") = false := by kernel_rfl
def sg13 : List (FuncId × Sig) := [(24, S24), (25, S25), (105, S105), (113, S113), (26, S26)]
def L13_0 : LoopSig := ⟨11300, [(3, none, 23)],
   ⟨[.any, .any, .any, (.c (.row 1 1)), .any, .any, .any, .any, (.c (.x (.sl 50 [i6, i6, i6, i6, i6, i6, (.sl 60 [i6, i6]), .str]) (.var 0))), (.c (.x i6 (.var 1))), (.c (.x i6 (.var 2))), .any, .any, .any, .any, .any, .any, .any, .any, .any, .any, .any, .any, .any, .any, .any, .any, .any, .any, .any, .any],
    [none, some ⟨(.t true), (.row 23 [i6, i6, i6, i6] (.var 3) 1 false)⟩]⟩,
   4, [2, 3], [11, 12, 13, 5, 14, 15, 16, 18, 19, 20, 17, 21, 22, 6, 7, 23, 24, 25, 26, 27, 3, 28, 10], [(.exit 0)], [3]⟩
def lt13 : List (Nat × LoopSig) := [(3, L13_0)]
theorem k13 : (Code.loops c13).length = 1 := by kernel_rfl
noncomputable def lb13_0 : Code := (Code.loops c13).getD 0 .skip
def rt13_0 : VT :=
  (.ite (.bin .lt (.var 2) (.var 1))
   (.need (.t true) (.c (.bin .le (.n 0) (.var 2)))
   (.need (.t true) (.c (.bin .lt (.var 2) (.un .len (.var 0))))
   (.need (.t true) (.pre 24 (.cons (.sel 0 (.var 0) (.var 2)) (.cons (.sel 1 (.var 0) (.var 2)) (.cons (.sel 2 (.var 0) (.var 2)) (.cons (.sel 3 (.var 0) (.var 2)) (.cons (.sel 4 (.var 0) (.var 2)) (.cons (.sel 5 (.var 0) (.var 2)) (.cons (.sel 6 (.var 0) (.var 2)) (.cons (.sel 7 (.var 0) (.var 2)) .nil)))))))))
   (.lt (.app 24 (.cons (.sel 0 (.var 0) (.var 2)) (.cons (.sel 1 (.var 0) (.var 2)) (.cons (.sel 2 (.var 0) (.var 2)) (.cons (.sel 3 (.var 0) (.var 2)) (.cons (.sel 4 (.var 0) (.var 2)) (.cons (.sel 5 (.var 0) (.var 2)) (.cons (.sel 6 (.var 0) (.var 2)) (.cons (.sel 7 (.var 0) (.var 2)) .nil)))))))) 0) 1
   (.ite (.un .not (.var 4))
    (.ret (.cons (.n (-1)) (.cons (.bin (.add .i64) (.var 2) (.n 1)) (.cons (.var 3) .nil))))
    (.need (.t true) (.pre 25 (.cons (.sel 0 (.var 0) (.var 2)) (.cons (.sel 1 (.var 0) (.var 2)) (.cons (.sel 2 (.var 0) (.var 2)) (.cons (.sel 3 (.var 0) (.var 2)) (.cons (.sel 4 (.var 0) (.var 2)) (.cons (.sel 5 (.var 0) (.var 2)) (.cons (.sel 6 (.var 0) (.var 2)) (.cons (.sel 7 (.var 0) (.var 2)) .nil)))))))))
    (.lt (.app 25 (.cons (.sel 0 (.var 0) (.var 2)) (.cons (.sel 1 (.var 0) (.var 2)) (.cons (.sel 2 (.var 0) (.var 2)) (.cons (.sel 3 (.var 0) (.var 2)) (.cons (.sel 4 (.var 0) (.var 2)) (.cons (.sel 5 (.var 0) (.var 2)) (.cons (.sel 6 (.var 0) (.var 2)) (.cons (.sel 7 (.var 0) (.var 2)) .nil)))))))) 0) 1
    (.need (.t true) (.c (.ite (.un (.tag 85) (.var 5)) (.t true) (.ite (.un (.tag 87) (.var 5)) (.t true) (.t false))))
    (.need (.t true) (.ct (.un (.tag 85) (.var 5)) [(.sl 60 [i6, i6])] (.var 5))
    (.need (.t true) (.pg (.un (.tag 85) (.var 5)) 105 (.cons (.psel 0 (.var 5)) .nil))
    (.need (.t true) (.ct (.un (.tag 87) (.var 5)) [i6, i6, i6, i6] (.var 5))
    (.need (.t true) (.pg (.un (.tag 87) (.var 5)) 113 (.cons (.psel 0 (.var 5)) (.cons (.psel 1 (.var 5)) (.cons (.psel 2 (.var 5)) (.cons (.psel 3 (.var 5)) .nil)))))
    (.ite (.ite (.un (.tag 85) (.var 5)) (.app 105 (.cons (.psel 0 (.var 5)) .nil) 4) (.ite (.un (.tag 87) (.var 5)) (.app 113 (.cons (.psel 0 (.var 5)) (.cons (.psel 1 (.var 5)) (.cons (.psel 2 (.var 5)) (.cons (.psel 3 (.var 5)) .nil)))) 4) (.n 0)))
     (.need (.t true) (.c (.bin .le (.un .len (.bin .cat (.var 3) (.lcons (.cons (.ite (.un (.tag 85) (.var 5)) (.app 105 (.cons (.psel 0 (.var 5)) .nil) 0) (.ite (.un (.tag 87) (.var 5)) (.app 113 (.cons (.psel 0 (.var 5)) (.cons (.psel 1 (.var 5)) (.cons (.psel 2 (.var 5)) (.cons (.psel 3 (.var 5)) .nil)))) 0) (.n 0))) (.cons (.ite (.un (.tag 85) (.var 5)) (.app 105 (.cons (.psel 0 (.var 5)) .nil) 1) (.ite (.un (.tag 87) (.var 5)) (.app 113 (.cons (.psel 0 (.var 5)) (.cons (.psel 1 (.var 5)) (.cons (.psel 2 (.var 5)) (.cons (.psel 3 (.var 5)) .nil)))) 1) (.n 0))) (.cons (.ite (.un (.tag 85) (.var 5)) (.app 105 (.cons (.psel 0 (.var 5)) .nil) 2) (.ite (.un (.tag 87) (.var 5)) (.app 113 (.cons (.psel 0 (.var 5)) (.cons (.psel 1 (.var 5)) (.cons (.psel 2 (.var 5)) (.cons (.psel 3 (.var 5)) .nil)))) 2) (.n 0))) (.cons (.ite (.un (.tag 85) (.var 5)) (.app 105 (.cons (.psel 0 (.var 5)) .nil) 3) (.ite (.un (.tag 87) (.var 5)) (.app 113 (.cons (.psel 0 (.var 5)) (.cons (.psel 1 (.var 5)) (.cons (.psel 2 (.var 5)) (.cons (.psel 3 (.var 5)) .nil)))) 3) (.n 0))) .nil)))) .lnil))) (.n 4398046511104)))
     (.ret (.cons (.n (-1)) (.cons (.bin (.add .i64) (.var 2) (.n 1)) (.cons (.bin .cat (.var 3) (.lcons (.cons (.ite (.un (.tag 85) (.var 5)) (.app 105 (.cons (.psel 0 (.var 5)) .nil) 0) (.ite (.un (.tag 87) (.var 5)) (.app 113 (.cons (.psel 0 (.var 5)) (.cons (.psel 1 (.var 5)) (.cons (.psel 2 (.var 5)) (.cons (.psel 3 (.var 5)) .nil)))) 0) (.n 0))) (.cons (.ite (.un (.tag 85) (.var 5)) (.app 105 (.cons (.psel 0 (.var 5)) .nil) 1) (.ite (.un (.tag 87) (.var 5)) (.app 113 (.cons (.psel 0 (.var 5)) (.cons (.psel 1 (.var 5)) (.cons (.psel 2 (.var 5)) (.cons (.psel 3 (.var 5)) .nil)))) 1) (.n 0))) (.cons (.ite (.un (.tag 85) (.var 5)) (.app 105 (.cons (.psel 0 (.var 5)) .nil) 2) (.ite (.un (.tag 87) (.var 5)) (.app 113 (.cons (.psel 0 (.var 5)) (.cons (.psel 1 (.var 5)) (.cons (.psel 2 (.var 5)) (.cons (.psel 3 (.var 5)) .nil)))) 2) (.n 0))) (.cons (.ite (.un (.tag 85) (.var 5)) (.app 105 (.cons (.psel 0 (.var 5)) .nil) 3) (.ite (.un (.tag 87) (.var 5)) (.app 113 (.cons (.psel 0 (.var 5)) (.cons (.psel 1 (.var 5)) (.cons (.psel 2 (.var 5)) (.cons (.psel 3 (.var 5)) .nil)))) 3) (.n 0))) .nil)))) .lnil)) .nil)))))
     (.ret (.cons (.n (-1)) (.cons (.bin (.add .i64) (.var 2) (.n 1)) (.cons (.var 3) .nil)))))))))))))))))
   (.ret (.cons (.n 0) (.cons (.var 2) (.cons (.var 3) .nil)))))
theorem le13_0 : (loopVT Try.prog (sgOf sg13) (ltOf lt13) L13_0 lb13_0).slim L13_0.nv [] = rt13_0 := by kernel_rfl
theorem lf13_0 : (firstRegion lb13_0).bind (ltOf lt13) = some L13_0 := by kernel_rfl
theorem lk13_0 : (Code.loops lb13_0).length = 0 := by kernel_rfl
def vt13 : VT :=
  (.need (.t true) (.pre 11300 (.cons (.var 0) (.cons (.un .len (.var 0)) (.cons (.n 0) (.cons .lnil .nil)))))
  (.lt (.app 11300 (.cons (.var 0) (.cons (.un .len (.var 0)) (.cons (.n 0) (.cons .lnil .nil)))) 0) 3
  (.need (.t true) (.pre 26 (.cons (.var 3) .nil))
  (.lt (.app 26 (.cons (.var 3) .nil) 0) 4
  (.ret (.cons (.var 4) (.cons (.var 5) (.cons (.var 6) (.cons (.var 7) .nil)))))))))
theorem e13 : (fnVT Try.prog (sgOf sg13) (ltOf lt13) S13 Try.f13 c13).slim (S13.ps.map fun p => p.2.length).sum [] = vt13 := by kernel_rfl
def S44 : Sig := ⟨[(true, [i6, i6, i6, i6, i6, i6, (.sl 60 [i6, i6]), .str])], [(false, [.bool])], [], none⟩
noncomputable def c44 : Code := Try.f44.body.getD .skip
theorem b44 : Try.f44.body = some c44 := body_some (by kernel_rfl)
theorem n44 : (Try.f44.name == "runtime.NumGoroutine") = false := by kernel_rfl
def sg44 : List (FuncId × Sig) := [(25, S25)]
def lt44 : List (Nat × LoopSig) := []
theorem k44 : (Code.loops c44).length = 0 := by kernel_rfl
def vt44 : VT :=
  (.ite (.ite (.un .not (.bin .eq (.var 0) (.n 4))) (.un .not (.bin .seq (.var 7) (.str ⟨#[]⟩))) (.t false))
   (.ret (.cons (.t false) .nil))
   (.need (.t true) (.pre 25 (.cons (.var 0) (.cons (.var 1) (.cons (.var 2) (.cons (.var 3) (.cons (.var 4) (.cons (.var 5) (.cons (.var 6) (.cons (.var 7) .nil)))))))))
   (.lt (.app 25 (.cons (.var 0) (.cons (.var 1) (.cons (.var 2) (.cons (.var 3) (.cons (.var 4) (.cons (.var 5) (.cons (.var 6) (.cons (.var 7) .nil)))))))) 0) 1
   (.need (.t true) (.ct (.un (.tag 85) (.var 8)) [(.sl 60 [i6, i6])] (.var 8))
   (.ite (.un (.tag 85) (.var 8))
    (.ret (.cons (.ite (.bin .eq (.var 2) (.n 0)) (.ite (.bin .eq (.var 3) (.n 0)) (.ite (.bin .eq (.var 4) (.n 0)) (.bin .eq (.var 5) (.n 0)) (.t false)) (.t false)) (.t false)) .nil))
    (.need (.t true) (.ct (.un (.tag 87) (.var 8)) [i6, i6, i6, i6] (.var 8))
    (.ite (.un (.tag 87) (.var 8))
     (.ret (.cons (.bin .eq (.un .len (.var 6)) (.n 0)) .nil))
     (.ret (.cons (.t false) .nil)))))))))
theorem e44 : (fnVT Try.prog (sgOf sg44) (ltOf lt44) S44 Try.f44 c44).slim (S44.ps.map fun p => p.2.length).sum [] = vt44 := by kernel_rfl
def S76 : Sig := ⟨[(false, [(.sl 5 [(.int .u8)])]), (false, [.clo])], [(false, [i6])], [], none⟩
noncomputable def c76 : Code := Try.f76.body.getD .skip
theorem b76 : Try.f76.body = some c76 := body_some (by kernel_rfl)
theorem n76 : (Try.f76.name == "runtime.NumGoroutine") = false := by kernel_rfl
def sg76 : List (FuncId × Sig) := [(20006, S20006)]
def L76_0 : LoopSig := ⟨17600, [],
   ⟨[(.c (.x (.sl 5 [(.int .u8)]) (.var 0))), (.c (.x .clo (.var 1))), .any, .any, (.c (.x i6 (.var 2))), .any, .any, (.c (.x i6 (.var 3))), (.c (.x i6 (.var 4))), .any, .any, .any, .any, .any, .any, .any, .any, .any, .any],
    []⟩,
   5, [2, 4], [9, 10, 5, 11, 12, 13, 14, 15, 16, 17, 4, 18, 8], [.ret, (.exit 0)], []⟩
def lt76 : List (Nat × LoopSig) := [(2, L76_0)]
theorem k76 : (Code.loops c76).length = 1 := by kernel_rfl
noncomputable def lb76_0 : Code := (Code.loops c76).getD 0 .skip
def rt76_0 : VT :=
  (.ite (.bin .lt (.var 4) (.var 3))
   (.need (.t true) (.c (.bin .le (.n 0) (.var 4)))
   (.need (.t true) (.c (.bin .lt (.var 4) (.un .len (.var 0))))
   (.need (.t true) (.pre 20006 (.cons (.var 1) (.cons (.sel 0 (.var 0) (.var 4)) .nil)))
   (.lt (.app 20006 (.cons (.var 1) (.cons (.sel 0 (.var 0) (.var 4)) .nil)) 0) 1
   (.ite (.var 5)
    (.ret (.cons (.n 0) (.cons (.var 4) (.cons (.var 4) .nil))))
    (.ret (.cons (.n (-1)) (.cons (.var 2) (.cons (.bin (.add .i64) (.var 4) (.n 1)) .nil)))))))))
   (.ret (.cons (.n 1) (.cons (.var 2) (.cons (.var 4) .nil)))))
theorem le76_0 : (loopVT Try.prog (sgOf sg76) (ltOf lt76) L76_0 lb76_0).slim L76_0.nv [] = rt76_0 := by kernel_rfl
theorem lf76_0 : (firstRegion lb76_0).bind (ltOf lt76) = some L76_0 := by kernel_rfl
theorem lk76_0 : (Code.loops lb76_0).length = 0 := by kernel_rfl
def vt76 : VT :=
  (.need (.t true) (.pre 17600 (.cons (.var 0) (.cons (.var 1) (.cons (.n 0) (.cons (.un .len (.var 0)) (.cons (.n 0) .nil))))))
  (.lt (.app 17600 (.cons (.var 0) (.cons (.var 1) (.cons (.n 0) (.cons (.un .len (.var 0)) (.cons (.n 0) .nil))))) 0) 3
  (.ite (.bin .eq (.var 2) (.n 0))
   (.ret (.cons (.var 3) .nil))
   (.ret (.cons (.n (-1)) .nil)))))
theorem e76 : (fnVT Try.prog (sgOf sg76) (ltOf lt76) S76 Try.f76 c76).slim (S76.ps.map fun p => p.2.length).sum [] = vt76 := by kernel_rfl
def S62 : Sig := ⟨[(false, [(.sl 5 [(.int .u8)])]), (false, [.clo])], [(false, [.bool])], [], none⟩
noncomputable def c62 : Code := Try.f62.body.getD .skip
theorem b62 : Try.f62.body = some c62 := body_some (by kernel_rfl)
theorem n62 : (Try.f62.name == "runtime.NumGoroutine") = false := by kernel_rfl
def sg62 : List (FuncId × Sig) := [(76, S76)]
def lt62 : List (Nat × LoopSig) := []
theorem k62 : (Code.loops c62).length = 0 := by kernel_rfl
def vt62 : VT :=
  (.need (.t true) (.pre 76 (.cons (.var 0) (.cons (.var 1) .nil)))
  (.lt (.app 76 (.cons (.var 0) (.cons (.var 1) .nil)) 0) 1
  (.ret (.cons (.bin .le (.n 0) (.var 2)) .nil))))
theorem e62 : (fnVT Try.prog (sgOf sg62) (ltOf lt62) S62 Try.f62 c62).slim (S62.ps.map fun p => p.2.length).sum [] = vt62 := by kernel_rfl
def S63 : Sig := ⟨[(false, [(.int .u8)])], [(false, [.bool])], [], none⟩
noncomputable def c63 : Code := Try.f63.body.getD .skip
theorem b63 : Try.f63.body = some c63 := body_some (by kernel_rfl)
theorem n63 : (Try.f63.name == "runtime.NumGoroutine") = false := by kernel_rfl
def sg63 : List (FuncId × Sig) := []
def lt63 : List (Nat × LoopSig) := []
theorem k63 : (Code.loops c63).length = 0 := by kernel_rfl
def vt63 : VT :=
  (.ret (.cons (.ite (.bin .lt (.var 0) (.n 32)) (.t true) (.bin .lt (.n 126) (.var 0))) .nil))
theorem e63 : (fnVT Try.prog (sgOf sg63) (ltOf lt63) S63 Try.f63 c63).slim (S63.ps.map fun p => p.2.length).sum [] = vt63 := by kernel_rfl
def T63 : FuncId → List D → List D := tabOf []
def fn63 (ρ : List D) : List D := vt63.val T63 ρ
theorem m63 : Meets Try.prog 63 S63 (fun _ => True) fn63 := meets_easy (sgl := sg63) (Φ := T63) mixed ((fun _ h => nomatch h)) Try.func63 b63 n63 k63 e63 (by kernel_rfl)
def S45 : Sig := ⟨[(false, [.str])], [(false, [.bool])], [], none⟩
noncomputable def c45 : Code := Try.f45.body.getD .skip
theorem b45 : Try.f45.body = some c45 := body_some (by kernel_rfl)
theorem n45 : (Try.f45.name == "runtime.NumGoroutine") = false := by kernel_rfl
def sg45 : List (FuncId × Sig) := [(62, S62)]
def lt45 : List (Nat × LoopSig) := []
theorem k45 : (Code.loops c45).length = 0 := by kernel_rfl
def vt45 : VT :=
  (.need (.t true) (.pre 62 (.cons (.un .bytes (.var 0)) (.cons (.clo 63 [] .nil) .nil)))
  (.lt (.app 62 (.cons (.un .bytes (.var 0)) (.cons (.clo 63 [] .nil) .nil)) 0) 1
  (.ret (.cons (.un .not (.var 1)) .nil))))
theorem e45 : (fnVT Try.prog (sgOf sg45) (ltOf lt45) S45 Try.f45 c45).slim (S45.ps.map fun p => p.2.length).sum [] = vt45 := by kernel_rfl
def S22 : Sig := ⟨[(true, [i6, i6, i6, i6, i6, i6, (.sl 60 [i6, i6]), .str])], [(false, [i6])], [], none⟩
noncomputable def c22 : Code := Try.f22.body.getD .skip
theorem b22 : Try.f22.body = some c22 := body_some (by kernel_rfl)
theorem n22 : (Try.f22.name == "runtime.NumGoroutine") = false := by kernel_rfl
def sg22 : List (FuncId × Sig) := [(24, S24), (44, S44), (25, S25), (105, S105), (113, S113), (45, S45)]
def lt22 : List (Nat × LoopSig) := []
theorem k22 : (Code.loops c22).length = 0 := by kernel_rfl
def vt22 : VT :=
  (.need (.t true) (.pre 24 (.cons (.var 0) (.cons (.var 1) (.cons (.var 2) (.cons (.var 3) (.cons (.var 4) (.cons (.var 5) (.cons (.var 6) (.cons (.var 7) .nil)))))))))
  (.lt (.app 24 (.cons (.var 0) (.cons (.var 1) (.cons (.var 2) (.cons (.var 3) (.cons (.var 4) (.cons (.var 5) (.cons (.var 6) (.cons (.var 7) .nil)))))))) 0) 1
  (.need (.var 8) (.pre 44 (.cons (.var 0) (.cons (.var 1) (.cons (.var 2) (.cons (.var 3) (.cons (.var 4) (.cons (.var 5) (.cons (.var 6) (.cons (.var 7) .nil)))))))))
  (.lt (.app 44 (.cons (.var 0) (.cons (.var 1) (.cons (.var 2) (.cons (.var 3) (.cons (.var 4) (.cons (.var 5) (.cons (.var 6) (.cons (.var 7) .nil)))))))) 0) 1
  (.ite (.ite (.ite (.un .not (.var 8)) (.t true) (.un .not (.var 9))) (.t true) (.bin .lt (.var 1) (.n 0)))
   (.ret (.cons (.n 1) .nil))
   (.need (.t true) (.pre 25 (.cons (.var 0) (.cons (.var 1) (.cons (.var 2) (.cons (.var 3) (.cons (.var 4) (.cons (.var 5) (.cons (.var 6) (.cons (.var 7) .nil)))))))))
   (.lt (.app 25 (.cons (.var 0) (.cons (.var 1) (.cons (.var 2) (.cons (.var 3) (.cons (.var 4) (.cons (.var 5) (.cons (.var 6) (.cons (.var 7) .nil)))))))) 0) 1
   (.need (.t true) (.c (.ite (.un (.tag 85) (.var 10)) (.t true) (.ite (.un (.tag 87) (.var 10)) (.t true) (.t false))))
   (.need (.t true) (.ct (.un (.tag 85) (.var 10)) [(.sl 60 [i6, i6])] (.var 10))
   (.need (.t true) (.pg (.un (.tag 85) (.var 10)) 105 (.cons (.psel 0 (.var 10)) .nil))
   (.need (.t true) (.ct (.un (.tag 87) (.var 10)) [i6, i6, i6, i6] (.var 10))
   (.need (.t true) (.pg (.un (.tag 87) (.var 10)) 113 (.cons (.psel 0 (.var 10)) (.cons (.psel 1 (.var 10)) (.cons (.psel 2 (.var 10)) (.cons (.psel 3 (.var 10)) .nil)))))
   (.ite (.un .not (.ite (.un (.tag 85) (.var 10)) (.app 105 (.cons (.psel 0 (.var 10)) .nil) 4) (.ite (.un (.tag 87) (.var 10)) (.app 113 (.cons (.psel 0 (.var 10)) (.cons (.psel 1 (.var 10)) (.cons (.psel 2 (.var 10)) (.cons (.psel 3 (.var 10)) .nil)))) 4) (.n 0))))
    (.ret (.cons (.n 3) .nil))
    (.need (.bin .eq (.var 0) (.n 4)) (.pre 45 (.cons (.var 7) .nil))
    (.lt (.app 45 (.cons (.var 7) .nil) 0) 1
    (.ite (.ite (.bin .eq (.var 0) (.n 4)) (.ite (.un .not (.var 11)) (.t true) (.bin .lt (.n 32) (.un .slen (.var 7)))) (.t false))
     (.ret (.cons (.n 7) .nil))
     (.ret (.cons (.n 0) .nil))))))))))))))))))
theorem e22 : (fnVT Try.prog (sgOf sg22) (ltOf lt22) S22 Try.f22 c22).slim (S22.ps.map fun p => p.2.length).sum [] = vt22 := by kernel_rfl
def S11 : Sig := ⟨[(true, [i6, i6, i6, i6, (.sl 50 [i6, i6, i6, i6, i6, i6, (.sl 60 [i6, i6]), .str])])], [(false, [i6])], [], none⟩
noncomputable def c11 : Code := Try.f11.body.getD .skip
theorem b11 : Try.f11.body = some c11 := body_some (by kernel_rfl)
theorem n11 : (Try.f11.name == "runtime.NumGoroutine") = false := by kernel_rfl
def sg11 : List (FuncId × Sig) := [(22, S22), (13, S13)]
def L11_0 : LoopSig := ⟨11100, [],
   ⟨[.any, .any, (.c (.x i6 (.var 0))), .any, .any, .any, .any, .any, .any, .any, .any, (.c (.x (.sl 50 [i6, i6, i6, i6, i6, i6, (.sl 60 [i6, i6]), .str]) (.var 1))), (.c (.x i6 (.var 2))), (.c (.x i6 (.var 3))), .any, .any, .any, .any, .any, .any, .any, .any, .any, .any, .any, .any, .any, .any, .any],
    [none]⟩,
   4, [0, 3], [14, 15, 16, 4, 17, 18, 5, 19, 20, 21, 2, 22, 13], [.ret, (.exit 0)], []⟩
def lt11 : List (Nat × LoopSig) := [(4, L11_0)]
theorem k11 : (Code.loops c11).length = 1 := by kernel_rfl
noncomputable def lb11_0 : Code := (Code.loops c11).getD 0 .skip
def rt11_0 : VT :=
  (.ite (.bin .lt (.var 3) (.var 2))
   (.need (.t true) (.c (.bin .le (.n 0) (.var 3)))
   (.need (.t true) (.c (.bin .lt (.var 3) (.un .len (.var 1))))
   (.need (.t true) (.pre 22 (.cons (.sel 0 (.var 1) (.var 3)) (.cons (.sel 1 (.var 1) (.var 3)) (.cons (.sel 2 (.var 1) (.var 3)) (.cons (.sel 3 (.var 1) (.var 3)) (.cons (.sel 4 (.var 1) (.var 3)) (.cons (.sel 5 (.var 1) (.var 3)) (.cons (.sel 6 (.var 1) (.var 3)) (.cons (.sel 7 (.var 1) (.var 3)) .nil)))))))))
   (.lt (.app 22 (.cons (.sel 0 (.var 1) (.var 3)) (.cons (.sel 1 (.var 1) (.var 3)) (.cons (.sel 2 (.var 1) (.var 3)) (.cons (.sel 3 (.var 1) (.var 3)) (.cons (.sel 4 (.var 1) (.var 3)) (.cons (.sel 5 (.var 1) (.var 3)) (.cons (.sel 6 (.var 1) (.var 3)) (.cons (.sel 7 (.var 1) (.var 3)) .nil)))))))) 0) 1
   (.ite (.un .not (.bin .eq (.var 4) (.n 0)))
    (.ret (.cons (.n 0) (.cons (.var 4) (.cons (.var 3) .nil))))
    (.ret (.cons (.n (-1)) (.cons (.var 0) (.cons (.bin (.add .i64) (.var 3) (.n 1)) .nil)))))))))
   (.ret (.cons (.n 1) (.cons (.var 0) (.cons (.var 3) .nil)))))
theorem le11_0 : (loopVT Try.prog (sgOf sg11) (ltOf lt11) L11_0 lb11_0).slim L11_0.nv [] = rt11_0 := by kernel_rfl
theorem lf11_0 : (firstRegion lb11_0).bind (ltOf lt11) = some L11_0 := by kernel_rfl
theorem lk11_0 : (Code.loops lb11_0).length = 0 := by kernel_rfl
def vt11 : VT :=
  (.ite (.bin .lt (.n 2048) (.un .len (.var 4)))
   (.ret (.cons (.n 2) .nil))
   (.need (.t true) (.pre 11100 (.cons (.n 0) (.cons (.var 4) (.cons (.un .len (.var 4)) (.cons (.n 0) .nil)))))
   (.lt (.app 11100 (.cons (.n 0) (.cons (.var 4) (.cons (.un .len (.var 4)) (.cons (.n 0) .nil)))) 0) 3
   (.ite (.bin .eq (.var 5) (.n 0))
    (.ret (.cons (.var 6) .nil))
    (.need (.t true) (.pre 13 (.cons (.var 4) .nil))
    (.lt (.app 13 (.cons (.var 4) .nil) 0) 4
    (.ite (.un .not (.ite (.bin .eq (.var 0) (.var 8)) (.ite (.bin .eq (.var 1) (.var 9)) (.ite (.bin .eq (.var 2) (.var 10)) (.bin .eq (.var 3) (.var 11)) (.t false)) (.t false)) (.t false)))
     (.ret (.cons (.n 13) .nil))
     (.ret (.cons (.n 0) .nil)))))))))
theorem e11 : (fnVT Try.prog (sgOf sg11) (ltOf lt11) S11 Try.f11 c11).slim (S11.ps.map fun p => p.2.length).sum [] = vt11 := by kernel_rfl
def S15 : Sig := ⟨[(true, [.str, .bool, (.sl 58 [.str, .str, i6, i6, i6, (.sl 103 [.str, i6])]), (.sl 75 [i6, i6, i6, i6, .str, i6, i6]), (.sl 52 [.str, i6])]), (true, [(.sl 23 [i6, i6, i6, i6]), (.sl 23 [i6, i6, i6, i6]), (.sl 48 [(.sl 60 [i6, i6])]), (.sl 23 [i6, i6, i6, i6]), i6, i6, i6, i6, i6, i6, (.sl 3 [i6])])], [(true, [i6, i6, i6, i6, (.sl 50 [i6, i6, i6, i6, i6, i6, (.sl 60 [i6, i6]), .str])]), (false, [i6])], [], none⟩
noncomputable def c15 : Code := Try.f15.body.getD .skip
theorem b15 : Try.f15.body = some c15 := body_some (by kernel_rfl)
theorem n15 : (Try.f15.name == "runtime.NumGoroutine") = false := by kernel_rfl
def sg15 : List (FuncId × Sig) := [(30, S30), (31, S31), (32, S32), (13, S13), (11, S11)]
def L15_0 : LoopSig := ⟨11500, [(2, some 4, 50), (3, some 4, 50)],
   ⟨[.any, .any, .any, (.c (.ptr 1 0)), .any, .any, (.c (.ptr 3 0)), .any, .any, .any, .any, .any, .any, .any, .any, .any, .any, .any, .any, .any, .any, .any, .any, .any, .any, .any, .any, .any, .any, .any, .any, .any, .any, .any, .any, .any, .any, .any, .any, .any, .any, .any, .any, .any, .any, .any, .any, .any, .any, .any, .any, .any, .any, .any, .any, .any, .any, (.c (.x (.sl 3 [i6]) (.var 0))), (.c (.x i6 (.var 1))), (.c (.x i6 (.var 2))), .any, .any, .any, .any, .any, .any, .any, .any, .any, .any, .any, .any, .any, .any, .any, .any, .any, .any, .any, .any, .any, .any, .any, .any, .any, .any, .any, .any, .any, .any, .any, .any, .any, .any, .any, .any, .any, .any, .any, .any, .any, .any, .any, .any, .any, .any, .any, .any, .any, .any, .any, .any, .any, .any, .any, .any, .any, .any, .any, .any, .any, .any, .any, .any, .any, .any, .any, .any, .any, .any, .any, .any, .any, .any, .any, .any, .any, .any, .any, .any, .any, .any, .any, .any, .any, .any, .any, .any, .any, .any, .any, .any, .any, .any, .any, .any, .any, .any, .any, .any, .any, .any, .any, .any, .any, .any, .any, .any, .any, .any, .any, .any, .any, .any, .any, .any, .any, .any, .any, .any, .any, .any, .any, .any, .any, .any, .any],
    [none, some ⟨(.t true), (.box 41 [(.x (.sl 23 [i6, i6, i6, i6]) (.var 3)), (.x (.sl 23 [i6, i6, i6, i6]) (.var 4)), (.x (.sl 48 [(.sl 60 [i6, i6])]) (.var 5)), (.x (.sl 23 [i6, i6, i6, i6]) (.var 6)), (.x i6 (.var 7)), (.x i6 (.var 8)), (.x i6 (.var 9)), (.x i6 (.var 10)), (.x i6 (.var 11)), (.x i6 (.var 12)), (.x (.sl 3 [i6]) (.var 13))] false)⟩, none, some ⟨(.t true), (.box 26 [(.x i6 (.var 14)), (.x i6 (.var 15)), (.x i6 (.var 16)), (.x i6 (.var 17)), (.row 5 1)] false)⟩, none, some ⟨(.t true), (.row 50 [i6, i6, i6, i6, i6, i6, (.sl 60 [i6, i6]), .str] (.var 18) 1 false)⟩]⟩,
   19, [2, 18], [60, 61, 62, 8, 63, 64, 65, 66, 67, 68, 69, 70, 71, 72, 73, 74, 75, 59], [(.exit 0)], [18]⟩
def L15_1 : LoopSig := ⟨11501, [],
   ⟨[.any, .any, .any, (.c (.ptr 1 0)), .any, .any, (.c (.ptr 3 0)), .any, .any, .any, .any, .any, .any, .any, .any, .any, .any, .any, .any, .any, .any, .any, .any, .any, .any, .any, .any, .any, .any, .any, .any, .any, .any, .any, .any, .any, .any, .any, .any, .any, .any, .any, .any, .any, .any, .any, .any, .any, .any, .any, .any, .any, .any, .any, .any, .any, .any, .any, .any, .any, .any, .any, .any, .any, .any, .any, .any, .any, .any, .any, .any, .any, .any, .any, .any, .any, .any, .any, (.c (.x i6 (.var 0))), (.c (.x i6 (.var 1))), .any, .any, .any, .any, .any, .any, .any, .any, .any, .any, .any, .any, .any, .any, .any, .any, .any, .any, .any, .any, .any, .any, .any, .any, .any, .any, .any, .any, .any, .any, .any, .any, .any, .any, .any, .any, .any, .any, .any, .any, .any, .any, .any, .any, .any, .any, .any, .any, .any, .any, .any, .any, .any, .any, .any, .any, .any, .any, .any, .any, .any, .any, .any, .any, .any, .any, .any, .any, .any, .any, .any, .any, .any, .any, .any, .any, .any, .any, .any, .any, .any, .any, .any, .any, .any, .any, .any, .any, .any, .any, .any, .any, .any, .any, .any, .any, .any, .any, .any, .any, .any, .any, .any, .any, .any, .any, .any],
    [none, some ⟨(.t true), (.box 41 [(.x (.sl 23 [i6, i6, i6, i6]) (.var 2)), (.x (.sl 23 [i6, i6, i6, i6]) (.var 3)), (.x (.sl 48 [(.sl 60 [i6, i6])]) (.var 4)), (.x (.sl 23 [i6, i6, i6, i6]) (.var 5)), (.x i6 (.var 6)), (.x i6 (.var 7)), (.x i6 (.var 8)), (.x i6 (.var 9)), (.x i6 (.var 10)), (.x i6 (.var 11)), (.x (.sl 3 [i6]) (.var 12))] false)⟩, none, some ⟨(.t true), (.box 26 [(.x i6 (.var 13)), (.x i6 (.var 14)), (.x i6 (.var 15)), (.x i6 (.var 16)), (.row 5 1)] false)⟩, none, some ⟨(.t true), (.row 50 [i6, i6, i6, i6, i6, i6, (.sl 60 [i6, i6]), .str] (.var 17) 1 false)⟩]⟩,
   18, [1, 17], [80, 81, 9, 82, 83, 84, 85, 86, 87, 88, 89, 90, 91, 92, 93, 94, 95, 79], [(.exit 2)], [17]⟩
def L15_2 : LoopSig := ⟨11502, [],
   ⟨[.any, .any, .any, (.c (.ptr 1 0)), .any, .any, (.c (.ptr 3 0)), .any, .any, .any, .any, .any, .any, .any, .any, .any, .any, .any, .any, .any, .any, .any, .any, .any, .any, .any, .any, .any, .any, .any, .any, .any, .any, .any, .any, .any, .any, .any, .any, .any, .any, .any, .any, .any, .any, .any, .any, .any, .any, .any, .any, .any, .any, .any, .any, .any, .any, .any, .any, .any, .any, .any, .any, .any, .any, .any, .any, .any, .any, .any, .any, .any, .any, .any, .any, .any, .any, .any, .any, .any, .any, .any, .any, .any, .any, .any, .any, .any, .any, .any, .any, .any, .any, .any, .any, .any, .any, .any, (.c (.x i6 (.var 0))), (.c (.x i6 (.var 1))), .any, .any, .any, .any, .any, .any, .any, .any, .any, .any, .any, .any, .any, .any, .any, .any, .any, .any, .any, .any, .any, .any, .any, .any, .any, .any, .any, .any, .any, .any, .any, .any, .any, .any, .any, .any, .any, .any, .any, .any, .any, .any, .any, .any, .any, .any, .any, .any, .any, .any, .any, .any, .any, .any, .any, .any, .any, .any, .any, .any, .any, .any, .any, .any, .any, .any, .any, .any, .any, .any, .any, .any, .any, .any, .any, .any, .any, .any, .any, .any, .any, .any, .any, .any, .any, .any, .any],
    [none, some ⟨(.t true), (.box 41 [(.x (.sl 23 [i6, i6, i6, i6]) (.var 2)), (.x (.sl 23 [i6, i6, i6, i6]) (.var 3)), (.x (.sl 48 [(.sl 60 [i6, i6])]) (.var 4)), (.x (.sl 23 [i6, i6, i6, i6]) (.var 5)), (.x i6 (.var 6)), (.x i6 (.var 7)), (.x i6 (.var 8)), (.x i6 (.var 9)), (.x i6 (.var 10)), (.x i6 (.var 11)), (.x (.sl 3 [i6]) (.var 12))] false)⟩, none, some ⟨(.t true), (.box 26 [(.x i6 (.var 13)), (.x i6 (.var 14)), (.x i6 (.var 15)), (.x i6 (.var 16)), (.row 5 1)] false)⟩, none, some ⟨(.t true), (.row 50 [i6, i6, i6, i6, i6, i6, (.sl 60 [i6, i6]), .str] (.var 17) 1 false)⟩]⟩,
   18, [1, 17], [100, 101, 10, 102, 103, 104, 105, 106, 107, 108, 109, 110, 111, 112, 113, 114, 99], [(.exit 4)], [17]⟩
def L15_3 : LoopSig := ⟨11503, [],
   ⟨[.any, .any, .any, (.c (.ptr 1 0)), .any, .any, (.c (.ptr 3 0)), .any, .any, .any, .any, .any, .any, .any, .any, .any, .any, .any, .any, .any, .any, .any, .any, .any, .any, .any, .any, .any, .any, .any, .any, .any, .any, .any, .any, .any, .any, .any, .any, .any, .any, .any, .any, .any, .any, .any, .any, .any, .any, .any, .any, .any, .any, .any, .any, .any, .any, .any, .any, .any, .any, .any, .any, .any, .any, .any, .any, .any, .any, .any, .any, .any, .any, .any, .any, .any, .any, .any, .any, .any, .any, .any, .any, .any, .any, .any, .any, .any, .any, .any, .any, .any, .any, .any, .any, .any, .any, .any, .any, .any, .any, .any, .any, .any, .any, .any, .any, .any, .any, .any, .any, .any, .any, .any, .any, .any, (.c (.x (.sl 58 [.str, .str, i6, i6, i6, (.sl 103 [.str, i6])]) (.var 0))), (.c (.x i6 (.var 1))), (.c (.x i6 (.var 2))), .any, .any, .any, .any, .any, .any, .any, .any, .any, .any, .any, .any, .any, .any, .any, .any, .any, .any, .any, .any, .any, .any, .any, .any, .any, .any, .any, .any, .any, .any, .any, .any, .any, .any, .any, .any, .any, .any, .any, .any, .any, .any, .any, .any, .any, .any, .any, .any, .any, .any, .any, .any, .any, .any, .any, .any, .any, .any, .any, .any, .any, .any, .any, .any, .any, .any, .any, .any],
    [none, some ⟨(.t true), (.box 41 [(.x (.sl 23 [i6, i6, i6, i6]) (.var 3)), (.x (.sl 23 [i6, i6, i6, i6]) (.var 4)), (.x (.sl 48 [(.sl 60 [i6, i6])]) (.var 5)), (.x (.sl 23 [i6, i6, i6, i6]) (.var 6)), (.x i6 (.var 7)), (.x i6 (.var 8)), (.x i6 (.var 9)), (.x i6 (.var 10)), (.x i6 (.var 11)), (.x i6 (.var 12)), (.x (.sl 3 [i6]) (.var 13))] false)⟩, none, some ⟨(.t true), (.box 26 [(.x i6 (.var 14)), (.x i6 (.var 15)), (.x i6 (.var 16)), (.x i6 (.var 17)), (.row 5 1)] false)⟩, none, some ⟨(.t true), (.row 50 [i6, i6, i6, i6, i6, i6, (.sl 60 [i6, i6]), .str] (.var 18) 1 false)⟩]⟩,
   19, [2, 18], [119, 120, 121, 122, 12, 11, 123, 124, 125, 126, 127, 128, 129, 130, 131, 132, 133, 134, 135, 136, 137, 138, 139, 140, 118], [(.exit 6)], [18]⟩
def L15_4 : LoopSig := ⟨11504, [],
   ⟨[.any, .any, .any, (.c (.ptr 1 0)), .any, .any, (.c (.ptr 3 0)), .any, .any, .any, .any, .any, .any, .any, .any, .any, .any, .any, .any, .any, .any, .any, .any, .any, .any, .any, .any, .any, .any, .any, .any, .any, .any, .any, .any, .any, .any, .any, .any, .any, .any, .any, .any, .any, .any, .any, .any, .any, .any, .any, .any, .any, .any, .any, .any, .any, .any, .any, .any, .any, .any, .any, .any, .any, .any, .any, .any, .any, .any, .any, .any, .any, .any, .any, .any, .any, .any, .any, .any, .any, .any, .any, .any, .any, .any, .any, .any, .any, .any, .any, .any, .any, .any, .any, .any, .any, .any, .any, .any, .any, .any, .any, .any, .any, .any, .any, .any, .any, .any, .any, .any, .any, .any, .any, .any, .any, .any, .any, .any, .any, .any, .any, .any, .any, .any, .any, .any, .any, .any, .any, .any, .any, .any, .any, .any, .any, .any, .any, .any, .any, .any, .any, (.c (.x (.sl 75 [i6, i6, i6, i6, .str, i6, i6]) (.var 0))), (.c (.x i6 (.var 1))), (.c (.x i6 (.var 2))), .any, .any, .any, .any, .any, .any, .any, .any, .any, .any, .any, .any, .any, .any, .any, .any, .any, .any, .any, .any, .any, .any, .any, .any, .any, .any, .any, .any, .any, .any, .any, .any, .any, .any, .any, .any, .any, .any, .any, .any, .any, .any],
    [none, some ⟨(.t true), (.box 41 [(.x (.sl 23 [i6, i6, i6, i6]) (.var 3)), (.x (.sl 23 [i6, i6, i6, i6]) (.var 4)), (.x (.sl 48 [(.sl 60 [i6, i6])]) (.var 5)), (.x (.sl 23 [i6, i6, i6, i6]) (.var 6)), (.x i6 (.var 7)), (.x i6 (.var 8)), (.x i6 (.var 9)), (.x i6 (.var 10)), (.x i6 (.var 11)), (.x i6 (.var 12)), (.x (.sl 3 [i6]) (.var 13))] false)⟩, none, some ⟨(.t true), (.box 26 [(.x i6 (.var 14)), (.x i6 (.var 15)), (.x i6 (.var 16)), (.x i6 (.var 17)), (.row 5 1)] false)⟩, none, some ⟨(.t true), (.row 50 [i6, i6, i6, i6, i6, i6, (.sl 60 [i6, i6]), .str] (.var 18) 1 false)⟩]⟩,
   19, [2, 18], [145, 146, 147, 148, 14, 13, 149, 150, 151, 152, 153, 154, 155, 156, 157, 158, 159, 160, 161, 162, 163, 164, 165, 166, 167, 168, 169, 170, 171, 172, 173, 174, 175, 144], [(.exit 8)], [18]⟩
def lt15 : List (Nat × LoopSig) := [(5, L15_0), (10, L15_1), (15, L15_2), (20, L15_3), (26, L15_4)]
theorem k15 : (Code.loops c15).length = 5 := by kernel_rfl
noncomputable def lb15_0 : Code := (Code.loops c15).getD 0 .skip
noncomputable def lb15_1 : Code := (Code.loops c15).getD 1 .skip
noncomputable def lb15_2 : Code := (Code.loops c15).getD 2 .skip
noncomputable def lb15_3 : Code := (Code.loops c15).getD 3 .skip
noncomputable def lb15_4 : Code := (Code.loops c15).getD 4 .skip
def rt15_0 : VT :=
  (.ite (.bin .lt (.var 2) (.var 1))
   (.need (.t true) (.c (.bin .le (.n 0) (.var 2)))
   (.need (.t true) (.c (.bin .lt (.var 2) (.un .len (.var 0))))
   (.need (.t true) (.c (.bin .le (.n 0) (.sel 0 (.var 0) (.var 2))))
   (.need (.t true) (.c (.bin .lt (.sel 0 (.var 0) (.var 2)) (.un .len (.var 4))))
   (.need (.t true) (.c (.bin .le (.un .len (.bin .cat (.var 18) (.lcons (.cons (.n 1) (.cons (.sel 0 (.var 0) (.var 2)) (.cons (.sel 0 (.var 4) (.sel 0 (.var 0) (.var 2))) (.cons (.sel 1 (.var 4) (.sel 0 (.var 0) (.var 2))) (.cons (.sel 2 (.var 4) (.sel 0 (.var 0) (.var 2))) (.cons (.sel 3 (.var 4) (.sel 0 (.var 0) (.var 2))) (.cons .lnil (.cons (.str ⟨#[]⟩) .nil)))))))) .lnil))) (.n 1599289640401)))
   (.ret (.cons (.n (-1)) (.cons (.bin (.add .i64) (.var 2) (.n 1)) (.cons (.bin .cat (.var 18) (.lcons (.cons (.n 1) (.cons (.sel 0 (.var 0) (.var 2)) (.cons (.sel 0 (.var 4) (.sel 0 (.var 0) (.var 2))) (.cons (.sel 1 (.var 4) (.sel 0 (.var 0) (.var 2))) (.cons (.sel 2 (.var 4) (.sel 0 (.var 0) (.var 2))) (.cons (.sel 3 (.var 4) (.sel 0 (.var 0) (.var 2))) (.cons .lnil (.cons (.str ⟨#[]⟩) .nil)))))))) .lnil)) .nil)))))))))
   (.ret (.cons (.n 0) (.cons (.var 2) (.cons (.var 18) .nil)))))
theorem le15_0 : (loopVT Try.prog (sgOf sg15) (ltOf lt15) L15_0 lb15_0).slim L15_0.nv [] = rt15_0 := by kernel_rfl
theorem lf15_0 : (firstRegion lb15_0).bind (ltOf lt15) = some L15_0 := by kernel_rfl
theorem lk15_0 : (Code.loops lb15_0).length = 0 := by kernel_rfl
def rt15_1 : VT :=
  (.ite (.bin .lt (.var 1) (.var 0))
   (.need (.t true) (.c (.bin .le (.n 0) (.var 1)))
   (.need (.t true) (.c (.bin .lt (.var 1) (.un .len (.var 4))))
   (.need (.t true) (.pre 32 (.cons (.sel 0 (.var 4) (.var 1)) .nil))
   (.lt (.app 32 (.cons (.sel 0 (.var 4) (.var 1)) .nil) 0) 1
   (.need (.t true) (.c (.bin .le (.un .len (.bin .cat (.var 17) (.lcons (.cons (.n 3) (.cons (.var 1) (.cons (.n 0) (.cons (.n 0) (.cons (.n 0) (.cons (.n 0) (.cons (.var 18) (.cons (.str ⟨#[]⟩) .nil)))))))) .lnil))) (.n 1599289640401)))
   (.ret (.cons (.n (-1)) (.cons (.bin (.add .i64) (.var 1) (.n 1)) (.cons (.bin .cat (.var 17) (.lcons (.cons (.n 3) (.cons (.var 1) (.cons (.n 0) (.cons (.n 0) (.cons (.n 0) (.cons (.n 0) (.cons (.var 18) (.cons (.str ⟨#[]⟩) .nil)))))))) .lnil)) .nil)))))))))
   (.ret (.cons (.n 0) (.cons (.var 1) (.cons (.var 17) .nil)))))
theorem le15_1 : (loopVT Try.prog (sgOf sg15) (ltOf lt15) L15_1 lb15_1).slim L15_1.nv [] = rt15_1 := by kernel_rfl
theorem lf15_1 : (firstRegion lb15_1).bind (ltOf lt15) = some L15_1 := by kernel_rfl
theorem lk15_1 : (Code.loops lb15_1).length = 0 := by kernel_rfl
def rt15_2 : VT :=
  (.ite (.bin .lt (.var 1) (.var 0))
   (.need (.t true) (.c (.bin .le (.n 0) (.var 1)))
   (.need (.t true) (.c (.bin .lt (.var 1) (.un .len (.var 2))))
   (.need (.t true) (.c (.bin .le (.un .len (.bin .cat (.var 17) (.lcons (.cons (.n 2) (.cons (.var 1) (.cons (.sel 0 (.var 2) (.var 1)) (.cons (.sel 1 (.var 2) (.var 1)) (.cons (.sel 2 (.var 2) (.var 1)) (.cons (.sel 3 (.var 2) (.var 1)) (.cons .lnil (.cons (.str ⟨#[]⟩) .nil)))))))) .lnil))) (.n 1599289640401)))
   (.ret (.cons (.n (-1)) (.cons (.bin (.add .i64) (.var 1) (.n 1)) (.cons (.bin .cat (.var 17) (.lcons (.cons (.n 2) (.cons (.var 1) (.cons (.sel 0 (.var 2) (.var 1)) (.cons (.sel 1 (.var 2) (.var 1)) (.cons (.sel 2 (.var 2) (.var 1)) (.cons (.sel 3 (.var 2) (.var 1)) (.cons .lnil (.cons (.str ⟨#[]⟩) .nil)))))))) .lnil)) .nil)))))))
   (.ret (.cons (.n 0) (.cons (.var 1) (.cons (.var 17) .nil)))))
theorem le15_2 : (loopVT Try.prog (sgOf sg15) (ltOf lt15) L15_2 lb15_2).slim L15_2.nv [] = rt15_2 := by kernel_rfl
theorem lf15_2 : (firstRegion lb15_2).bind (ltOf lt15) = some L15_2 := by kernel_rfl
theorem lk15_2 : (Code.loops lb15_2).length = 0 := by kernel_rfl
def rt15_3 : VT :=
  (.ite (.bin .lt (.var 2) (.var 1))
   (.need (.t true) (.c (.bin .le (.n 0) (.var 2)))
   (.need (.t true) (.c (.bin .lt (.var 2) (.un .len (.var 0))))
   (.ite (.un .not (.bin .seq (.sel 1 (.var 0) (.var 2)) (.str ⟨#[]⟩)))
    (.need (.t true) (.c (.bin .lt (.var 2) (.un .len (.var 3))))
    (.need (.t true) (.c (.bin .le (.un .len (.bin .cat (.var 18) (.lcons (.cons (.n 4) (.cons (.var 2) (.cons (.sel 0 (.var 3) (.var 2)) (.cons (.sel 1 (.var 3) (.var 2)) (.cons (.sel 2 (.var 3) (.var 2)) (.cons (.sel 3 (.var 3) (.var 2)) (.cons .lnil (.cons (.sel 1 (.var 0) (.var 2)) .nil)))))))) .lnil))) (.n 1599289640401)))
    (.ret (.cons (.n (-1)) (.cons (.bin (.add .i64) (.var 2) (.n 1)) (.cons (.bin .cat (.var 18) (.lcons (.cons (.n 4) (.cons (.var 2) (.cons (.sel 0 (.var 3) (.var 2)) (.cons (.sel 1 (.var 3) (.var 2)) (.cons (.sel 2 (.var 3) (.var 2)) (.cons (.sel 3 (.var 3) (.var 2)) (.cons .lnil (.cons (.sel 1 (.var 0) (.var 2)) .nil)))))))) .lnil)) .nil))))))
    (.ret (.cons (.n (-1)) (.cons (.bin (.add .i64) (.var 2) (.n 1)) (.cons (.var 18) .nil)))))))
   (.ret (.cons (.n 0) (.cons (.var 2) (.cons (.var 18) .nil)))))
theorem le15_3 : (loopVT Try.prog (sgOf sg15) (ltOf lt15) L15_3 lb15_3).slim L15_3.nv [] = rt15_3 := by kernel_rfl
theorem lf15_3 : (firstRegion lb15_3).bind (ltOf lt15) = some L15_3 := by kernel_rfl
theorem lk15_3 : (Code.loops lb15_3).length = 0 := by kernel_rfl
def rt15_4 : VT :=
  (.ite (.bin .lt (.var 2) (.var 1))
   (.need (.t true) (.c (.bin .le (.n 0) (.var 2)))
   (.need (.t true) (.c (.bin .lt (.var 2) (.un .len (.var 0))))
   (.need (.un .not (.bin .seq (.sel 4 (.var 0) (.var 2)) (.str ⟨#[]⟩))) (.c (.bin .lt (.var 2) (.un .len (.var 6))))
   (.ite (.ite (.un .not (.bin .seq (.sel 4 (.var 0) (.var 2)) (.str ⟨#[]⟩))) (.un .not (.ite (.bin .eq (.sel 0 (.var 6) (.var 2)) (.n 0)) (.ite (.bin .eq (.sel 1 (.var 6) (.var 2)) (.n 0)) (.ite (.bin .eq (.sel 2 (.var 6) (.var 2)) (.n 0)) (.bin .eq (.sel 3 (.var 6) (.var 2)) (.n 0)) (.t false)) (.t false)) (.t false))) (.t false))
    (.need (.t true) (.c (.bin .lt (.var 2) (.un .len (.var 6))))
    (.need (.t true) (.c (.bin .le (.un .len (.bin .cat (.var 18) (.lcons (.cons (.n 4) (.cons (.var 2) (.cons (.sel 0 (.var 6) (.var 2)) (.cons (.sel 1 (.var 6) (.var 2)) (.cons (.sel 2 (.var 6) (.var 2)) (.cons (.sel 3 (.var 6) (.var 2)) (.cons .lnil (.cons (.sel 4 (.var 0) (.var 2)) .nil)))))))) .lnil))) (.n 1599289640401)))
    (.ret (.cons (.n (-1)) (.cons (.bin (.add .i64) (.var 2) (.n 1)) (.cons (.bin .cat (.var 18) (.lcons (.cons (.n 4) (.cons (.var 2) (.cons (.sel 0 (.var 6) (.var 2)) (.cons (.sel 1 (.var 6) (.var 2)) (.cons (.sel 2 (.var 6) (.var 2)) (.cons (.sel 3 (.var 6) (.var 2)) (.cons .lnil (.cons (.sel 4 (.var 0) (.var 2)) .nil)))))))) .lnil)) .nil))))))
    (.ret (.cons (.n (-1)) (.cons (.bin (.add .i64) (.var 2) (.n 1)) (.cons (.var 18) .nil))))))))
   (.ret (.cons (.n 0) (.cons (.var 2) (.cons (.var 18) .nil)))))
theorem le15_4 : (loopVT Try.prog (sgOf sg15) (ltOf lt15) L15_4 lb15_4).slim L15_4.nv [] = rt15_4 := by kernel_rfl
theorem lf15_4 : (firstRegion lb15_4).bind (ltOf lt15) = some L15_4 := by kernel_rfl
theorem lk15_4 : (Code.loops lb15_4).length = 0 := by kernel_rfl
def vt15 : VT :=
  (.need (.t true) (.pre 30 (.cons (.var 0) (.cons (.var 1) (.cons (.var 2) (.cons (.var 3) (.cons (.var 4) .nil))))))
  (.lt (.app 30 (.cons (.var 0) (.cons (.var 1) (.cons (.var 2) (.cons (.var 3) (.cons (.var 4) .nil))))) 0) 1
  (.ite (.ite (.ite (.ite (.ite (.un .not (.bin .eq (.var 16) (.n 0))) (.t true) (.un .not (.bin .eq (.un .len (.var 5)) (.un .len (.var 2))))) (.t true) (.un .not (.bin .eq (.un .len (.var 6)) (.un .len (.var 4))))) (.t true) (.un .not (.bin .eq (.un .len (.var 7)) (.un .len (.var 3))))) (.t true) (.un .not (.bin .eq (.un .len (.var 8)) (.un .len (.var 3)))))
   (.ret (.cons (.n 0) (.cons (.n 0) (.cons (.n 0) (.cons (.n 0) (.cons .lnil (.cons (.n 1) .nil)))))))
   (.need (.t true) (.pre 31 (.cons (.var 0) (.cons (.var 1) (.cons (.var 2) (.cons (.var 3) (.cons (.var 4) .nil))))))
   (.lt (.app 31 (.cons (.var 0) (.cons (.var 1) (.cons (.var 2) (.cons (.var 3) (.cons (.var 4) .nil))))) 0) 1
   (.need (.t true) (.pre 11500 (.cons (.var 17) (.cons (.un .len (.var 17)) (.cons (.n 0) (.cons (.var 5) (.cons (.var 6) (.cons (.var 7) (.cons (.var 8) (.cons (.var 9) (.cons (.var 10) (.cons (.var 11) (.cons (.var 12) (.cons (.var 13) (.cons (.var 14) (.cons (.var 15) (.cons (.n 0) (.cons (.n 0) (.cons (.n 0) (.cons (.n 0) (.cons .lnil .nil))))))))))))))))))))
   (.lt (.app 11500 (.cons (.var 17) (.cons (.un .len (.var 17)) (.cons (.n 0) (.cons (.var 5) (.cons (.var 6) (.cons (.var 7) (.cons (.var 8) (.cons (.var 9) (.cons (.var 10) (.cons (.var 11) (.cons (.var 12) (.cons (.var 13) (.cons (.var 14) (.cons (.var 15) (.cons (.n 0) (.cons (.n 0) (.cons (.n 0) (.cons (.n 0) (.cons .lnil .nil))))))))))))))))))) 0) 3
   (.need (.t true) (.pre 11501 (.cons (.un .len (.var 3)) (.cons (.n 0) (.cons (.var 5) (.cons (.var 6) (.cons (.var 7) (.cons (.var 8) (.cons (.var 9) (.cons (.var 10) (.cons (.var 11) (.cons (.var 12) (.cons (.var 13) (.cons (.var 14) (.cons (.var 15) (.cons (.n 0) (.cons (.n 0) (.cons (.n 0) (.cons (.n 0) (.cons (.var 20) .nil)))))))))))))))))))
   (.lt (.app 11501 (.cons (.un .len (.var 3)) (.cons (.n 0) (.cons (.var 5) (.cons (.var 6) (.cons (.var 7) (.cons (.var 8) (.cons (.var 9) (.cons (.var 10) (.cons (.var 11) (.cons (.var 12) (.cons (.var 13) (.cons (.var 14) (.cons (.var 15) (.cons (.n 0) (.cons (.n 0) (.cons (.n 0) (.cons (.n 0) (.cons (.var 20) .nil)))))))))))))))))) 0) 3
   (.need (.t true) (.pre 11502 (.cons (.un .len (.var 2)) (.cons (.n 0) (.cons (.var 5) (.cons (.var 6) (.cons (.var 7) (.cons (.var 8) (.cons (.var 9) (.cons (.var 10) (.cons (.var 11) (.cons (.var 12) (.cons (.var 13) (.cons (.var 14) (.cons (.var 15) (.cons (.n 0) (.cons (.n 0) (.cons (.n 0) (.cons (.n 0) (.cons (.var 23) .nil)))))))))))))))))))
   (.lt (.app 11502 (.cons (.un .len (.var 2)) (.cons (.n 0) (.cons (.var 5) (.cons (.var 6) (.cons (.var 7) (.cons (.var 8) (.cons (.var 9) (.cons (.var 10) (.cons (.var 11) (.cons (.var 12) (.cons (.var 13) (.cons (.var 14) (.cons (.var 15) (.cons (.n 0) (.cons (.n 0) (.cons (.n 0) (.cons (.n 0) (.cons (.var 23) .nil)))))))))))))))))) 0) 3
   (.need (.t true) (.pre 11503 (.cons (.var 2) (.cons (.un .len (.var 2)) (.cons (.n 0) (.cons (.var 5) (.cons (.var 6) (.cons (.var 7) (.cons (.var 8) (.cons (.var 9) (.cons (.var 10) (.cons (.var 11) (.cons (.var 12) (.cons (.var 13) (.cons (.var 14) (.cons (.var 15) (.cons (.n 0) (.cons (.n 0) (.cons (.n 0) (.cons (.n 0) (.cons (.var 26) .nil))))))))))))))))))))
   (.lt (.app 11503 (.cons (.var 2) (.cons (.un .len (.var 2)) (.cons (.n 0) (.cons (.var 5) (.cons (.var 6) (.cons (.var 7) (.cons (.var 8) (.cons (.var 9) (.cons (.var 10) (.cons (.var 11) (.cons (.var 12) (.cons (.var 13) (.cons (.var 14) (.cons (.var 15) (.cons (.n 0) (.cons (.n 0) (.cons (.n 0) (.cons (.n 0) (.cons (.var 26) .nil))))))))))))))))))) 0) 3
   (.need (.t true) (.pre 11504 (.cons (.var 3) (.cons (.un .len (.var 3)) (.cons (.n 0) (.cons (.var 5) (.cons (.var 6) (.cons (.var 7) (.cons (.var 8) (.cons (.var 9) (.cons (.var 10) (.cons (.var 11) (.cons (.var 12) (.cons (.var 13) (.cons (.var 14) (.cons (.var 15) (.cons (.n 0) (.cons (.n 0) (.cons (.n 0) (.cons (.n 0) (.cons (.var 29) .nil))))))))))))))))))))
   (.lt (.app 11504 (.cons (.var 3) (.cons (.un .len (.var 3)) (.cons (.n 0) (.cons (.var 5) (.cons (.var 6) (.cons (.var 7) (.cons (.var 8) (.cons (.var 9) (.cons (.var 10) (.cons (.var 11) (.cons (.var 12) (.cons (.var 13) (.cons (.var 14) (.cons (.var 15) (.cons (.n 0) (.cons (.n 0) (.cons (.n 0) (.cons (.n 0) (.cons (.var 29) .nil))))))))))))))))))) 0) 3
   (.need (.t true) (.pre 13 (.cons (.var 32) .nil))
   (.lt (.app 13 (.cons (.var 32) .nil) 0) 4
   (.need (.t true) (.pre 11 (.cons (.var 33) (.cons (.var 34) (.cons (.var 35) (.cons (.var 36) (.cons (.var 32) .nil))))))
   (.lt (.app 11 (.cons (.var 33) (.cons (.var 34) (.cons (.var 35) (.cons (.var 36) (.cons (.var 32) .nil))))) 0) 1
   (.ite (.un .not (.bin .eq (.var 37) (.n 0)))
    (.ret (.cons (.n 0) (.cons (.n 0) (.cons (.n 0) (.cons (.n 0) (.cons .lnil (.cons (.var 37) .nil)))))))
    (.ret (.cons (.var 33) (.cons (.var 34) (.cons (.var 35) (.cons (.var 36) (.cons (.var 32) (.cons (.n 0) .nil)))))))))))))))))))))))))))
theorem e15 : (fnVT Try.prog (sgOf sg15) (ltOf lt15) S15 Try.f15 c15).slim (S15.ps.map fun p => p.2.length).sum [] = vt15 := by kernel_rfl
def S36 : Sig := ⟨[(true, [i6, i6, i6, i6]), (false, [i6]), (false, [i6])], [(true, [i6, i6, i6, i6])], [], none⟩
noncomputable def c36 : Code := Try.f36.body.getD .skip
theorem b36 : Try.f36.body = some c36 := body_some (by kernel_rfl)
theorem n36 : (Try.f36.name == "runtime.NumGoroutine") = false := by kernel_rfl
def sg36 : List (FuncId × Sig) := []
def lt36 : List (Nat × LoopSig) := []
theorem k36 : (Code.loops c36).length = 0 := by kernel_rfl
def vt36 : VT :=
  (.ret (.cons (.bin (.add .i64) (.var 0) (.var 4)) (.cons (.bin (.add .i64) (.var 1) (.var 5)) (.cons (.bin (.add .i64) (.var 2) (.var 4)) (.cons (.bin (.add .i64) (.var 3) (.var 5)) .nil)))))
theorem e36 : (fnVT Try.prog (sgOf sg36) (ltOf lt36) S36 Try.f36 c36).slim (S36.ps.map fun p => p.2.length).sum [] = vt36 := by kernel_rfl
def T36 : FuncId → List D → List D := tabOf []
def fn36 (ρ : List D) : List D := vt36.val T36 ρ
theorem m36 : Meets Try.prog 36 S36 (fun _ => True) fn36 := meets_easy (sgl := sg36) (Φ := T36) mixed ((fun _ h => nomatch h)) Try.func36 b36 n36 k36 e36 (by kernel_rfl)
def S18 : Sig := ⟨[(true, [i6, i6, i6, i6, (.sl 50 [i6, i6, i6, i6, i6, i6, (.sl 60 [i6, i6]), .str])]), (false, [i6]), (false, [i6])], [(true, [i6, i6, i6, i6, (.sl 50 [i6, i6, i6, i6, i6, i6, (.sl 60 [i6, i6]), .str])]), (false, [i6])], [], none⟩
noncomputable def c18 : Code := Try.f18.body.getD .skip
theorem b18 : Try.f18.body = some c18 := body_some (by kernel_rfl)
theorem n18 : (Try.f18.name == "runtime.NumGoroutine") = false := by kernel_rfl
def sg18 : List (FuncId × Sig) := [(11, S11), (36, S36), (35, S35), (32, S32)]
def L18_0 : LoopSig := ⟨11801, [(1, some 4, 50), (2, some 4, 50)],
   ⟨[.any, (.c (.x i6 (.var 0))), (.c (.x i6 (.var 1))), .any, .any, .any, .any, .any, (.c (.ptr 2 0)), .any, .any, .any, .any, .any, .any, .any, .any, .any, .any, .any, .any, .any, .any, .any, .any, .any, .any, .any, .any, .any, .any, .any, .any, .any, .any, .any, .any, .any, .any, .any, .any, .any, .any, .any, .any, .any, .any, .any, .any, .any, .any, .any, (.c (.x (.sl 50 [i6, i6, i6, i6, i6, i6, (.sl 60 [i6, i6]), .str]) (.var 2))), (.c (.x i6 (.var 3))), (.c (.x i6 (.var 4))), .any, .any, .any, .any, .any, .any, .any, .any, .any, .any, .any, .any, .any, .any, .any, .any, .any, .any, .any, .any, .any, .any, .any, .any, .any, .any, .any, .any, .any, .any, .any, .any, .any, .any, .any, .any, .any, .any, .any, .any, .any, .any, .any, .any, .any, .any, .any, .any, .any, .any, .any],
    [none, none, some ⟨(.t true), (.box 26 [(.x i6 (.var 5)), (.x i6 (.var 6)), (.x i6 (.var 7)), (.x i6 (.var 8)), (.row 4 1)] false)⟩, none, some ⟨(.t true), (.row 50 [i6, i6, i6, i6, i6, i6, (.sl 60 [i6, i6]), .str] (.var 9) 1 false)⟩]⟩,
   10, [4, 9], [55, 56, 57, 10, 58, 59, 60, 61, 62, 63, 64, 65, 66, 67, 68, 69, 70, 71, 72, 73, 74, 75, 76, 11, 77, 78, 79, 80, 81, 82, 83, 84, 85, 86, 87, 88, 89, 90, 91, 92, 93, 94, 95, 96, 97, 98, 99, 100, 101, 102, 103, 104, 54], [(.exit 0)], [9]⟩
def L18_1 : LoopSig := ⟨11800, [],
   ⟨[.any, (.c (.x i6 (.var 0))), (.c (.x i6 (.var 1))), .any, .any, .any, .any, .any, .any, .any, (.c (.ptr 5 0)), .any, .any, .any, .any, .any, .any, .any, .any, .any, .any, .any, .any, .any, .any, .any, .any, .any, .any, .any, .any, .any, .any, .any, .any, .any, .any, .any, .any, .any, .any, .any, .any, .any, .any, .any, .any, .any, .any, .any, .any, .any, .any, .any, .any, .any, .any, .any, .any, .any, .any, .any, .any, .any, .any, .any, .any, .any, .any, .any, .any, .any, .any, (.c (.x i6 (.var 2))), (.c (.x i6 (.var 3))), .any, .any, .any, .any, .any, .any, .any, .any, .any, .any, .any, .any, .any, .any, .any, .any, .any, .any, .any, .any, .any, .any, .any, .any, .any, .any, .any, .any, .any, .any, .any],
    [none, none, none, none, none, some ⟨(.t true), (.box 50 [(.x i6 (.var 4)), (.x i6 (.var 5)), (.x i6 (.var 6)), (.x i6 (.var 7)), (.x i6 (.var 8)), (.x i6 (.var 9)), (.row 6 1), (.x .str (.var 10))] false)⟩, some ⟨(.t true), (.row 60 [i6, i6] (.var 11) 1 false)⟩]⟩,
   12, [3, 11], [75, 76, 11, 77, 78, 79, 80, 81, 82, 83, 84, 85, 86, 87, 88, 89, 90, 91, 92, 93, 94, 95, 96, 97, 74], [(.exit 2)], []⟩
def lt18 : List (Nat × LoopSig) := [(9, L18_0), (15, L18_1)]
theorem k18 : (Code.loops c18).length = 2 := by kernel_rfl
noncomputable def lb18_0 : Code := (Code.loops c18).getD 0 .skip
noncomputable def lb18_1 : Code := (Code.loops c18).getD 1 .skip
def rt18_0 : VT :=
  (.ite (.bin .lt (.var 4) (.var 3))
   (.need (.t true) (.c (.bin .le (.n 0) (.var 4)))
   (.need (.t true) (.c (.bin .lt (.var 4) (.un .len (.var 2))))
   (.ite (.un .not (.bin .eq (.sel 0 (.var 2) (.var 4)) (.n 3)))
    (.need (.t true) (.pre 36 (.cons (.sel 2 (.var 2) (.var 4)) (.cons (.sel 3 (.var 2) (.var 4)) (.cons (.sel 4 (.var 2) (.var 4)) (.cons (.sel 5 (.var 2) (.var 4)) (.cons (.var 0) (.cons (.var 1) .nil)))))))
    (.lt (.app 36 (.cons (.sel 2 (.var 2) (.var 4)) (.cons (.sel 3 (.var 2) (.var 4)) (.cons (.sel 4 (.var 2) (.var 4)) (.cons (.sel 5 (.var 2) (.var 4)) (.cons (.var 0) (.cons (.var 1) .nil)))))) 0) 4
    (.need (.t true) (.pre 32 (.cons (.sel 6 (.var 2) (.var 4)) .nil))
    (.lt (.app 32 (.cons (.sel 6 (.var 2) (.var 4)) .nil) 0) 1
    (.need (.t true) (.pre 11800 (.cons (.var 0) (.cons (.var 1) (.cons (.un .len (.var 14)) (.cons (.n 0) (.cons (.sel 0 (.var 2) (.var 4)) (.cons (.sel 1 (.var 2) (.var 4)) (.cons (.var 10) (.cons (.var 11) (.cons (.var 12) (.cons (.var 13) (.cons (.sel 7 (.var 2) (.var 4)) (.cons (.var 14) .nil)))))))))))))
    (.lt (.app 11800 (.cons (.var 0) (.cons (.var 1) (.cons (.un .len (.var 14)) (.cons (.n 0) (.cons (.sel 0 (.var 2) (.var 4)) (.cons (.sel 1 (.var 2) (.var 4)) (.cons (.var 10) (.cons (.var 11) (.cons (.var 12) (.cons (.var 13) (.cons (.sel 7 (.var 2) (.var 4)) (.cons (.var 14) .nil)))))))))))) 0) 3
    (.need (.t true) (.c (.bin .le (.un .len (.bin .cat (.var 9) (.lcons (.cons (.sel 0 (.var 2) (.var 4)) (.cons (.sel 1 (.var 2) (.var 4)) (.cons (.var 10) (.cons (.var 11) (.cons (.var 12) (.cons (.var 13) (.cons (.var 17) (.cons (.sel 7 (.var 2) (.var 4)) .nil)))))))) .lnil))) (.n 1599289640401)))
    (.ret (.cons (.n (-1)) (.cons (.bin (.add .i64) (.var 4) (.n 1)) (.cons (.bin .cat (.var 9) (.lcons (.cons (.sel 0 (.var 2) (.var 4)) (.cons (.sel 1 (.var 2) (.var 4)) (.cons (.var 10) (.cons (.var 11) (.cons (.var 12) (.cons (.var 13) (.cons (.var 17) (.cons (.sel 7 (.var 2) (.var 4)) .nil)))))))) .lnil)) .nil)))))))))))
    (.need (.t true) (.pre 32 (.cons (.sel 6 (.var 2) (.var 4)) .nil))
    (.lt (.app 32 (.cons (.sel 6 (.var 2) (.var 4)) .nil) 0) 1
    (.need (.t true) (.pre 11800 (.cons (.var 0) (.cons (.var 1) (.cons (.un .len (.var 10)) (.cons (.n 0) (.cons (.sel 0 (.var 2) (.var 4)) (.cons (.sel 1 (.var 2) (.var 4)) (.cons (.sel 2 (.var 2) (.var 4)) (.cons (.sel 3 (.var 2) (.var 4)) (.cons (.sel 4 (.var 2) (.var 4)) (.cons (.sel 5 (.var 2) (.var 4)) (.cons (.sel 7 (.var 2) (.var 4)) (.cons (.var 10) .nil)))))))))))))
    (.lt (.app 11800 (.cons (.var 0) (.cons (.var 1) (.cons (.un .len (.var 10)) (.cons (.n 0) (.cons (.sel 0 (.var 2) (.var 4)) (.cons (.sel 1 (.var 2) (.var 4)) (.cons (.sel 2 (.var 2) (.var 4)) (.cons (.sel 3 (.var 2) (.var 4)) (.cons (.sel 4 (.var 2) (.var 4)) (.cons (.sel 5 (.var 2) (.var 4)) (.cons (.sel 7 (.var 2) (.var 4)) (.cons (.var 10) .nil)))))))))))) 0) 3
    (.need (.t true) (.c (.bin .le (.un .len (.bin .cat (.var 9) (.lcons (.cons (.sel 0 (.var 2) (.var 4)) (.cons (.sel 1 (.var 2) (.var 4)) (.cons (.sel 2 (.var 2) (.var 4)) (.cons (.sel 3 (.var 2) (.var 4)) (.cons (.sel 4 (.var 2) (.var 4)) (.cons (.sel 5 (.var 2) (.var 4)) (.cons (.var 13) (.cons (.sel 7 (.var 2) (.var 4)) .nil)))))))) .lnil))) (.n 1599289640401)))
    (.ret (.cons (.n (-1)) (.cons (.bin (.add .i64) (.var 4) (.n 1)) (.cons (.bin .cat (.var 9) (.lcons (.cons (.sel 0 (.var 2) (.var 4)) (.cons (.sel 1 (.var 2) (.var 4)) (.cons (.sel 2 (.var 2) (.var 4)) (.cons (.sel 3 (.var 2) (.var 4)) (.cons (.sel 4 (.var 2) (.var 4)) (.cons (.sel 5 (.var 2) (.var 4)) (.cons (.var 13) (.cons (.sel 7 (.var 2) (.var 4)) .nil)))))))) .lnil)) .nil))))))))))))
   (.ret (.cons (.n 0) (.cons (.var 4) (.cons (.var 9) .nil)))))
theorem le18_0 : (loopVT Try.prog (sgOf sg18) (ltOf lt18) L18_0 lb18_0).slim L18_0.nv [] = rt18_0 := by kernel_rfl
theorem lf18_0 : (firstRegion lb18_0).bind (ltOf lt18) = some L18_0 := by kernel_rfl
theorem lk18_0 : (Code.loops lb18_0).length = 1 := by kernel_rfl
theorem li18_0_0 : (Code.loops lb18_0).getD 0 .skip = lb18_1 := by kernel_rfl
def rt18_1 : VT :=
  (.ite (.bin .lt (.var 3) (.var 2))
   (.need (.t true) (.c (.bin .le (.n 0) (.var 3)))
   (.need (.t true) (.c (.bin .lt (.var 3) (.un .len (.var 11))))
   (.need (.t true) (.c (.bin .lt (.var 3) (.un .len (.upd 0 (.var 11) (.var 3) (.cons (.bin (.add .i64) (.sel 0 (.var 11) (.var 3)) (.var 0)) .nil)))))
   (.ret (.cons (.n (-1)) (.cons (.bin (.add .i64) (.var 3) (.n 1)) (.cons (.upd 1 (.upd 0 (.var 11) (.var 3) (.cons (.bin (.add .i64) (.sel 0 (.var 11) (.var 3)) (.var 0)) .nil)) (.var 3) (.cons (.bin (.add .i64) (.sel 1 (.upd 0 (.var 11) (.var 3) (.cons (.bin (.add .i64) (.sel 0 (.var 11) (.var 3)) (.var 0)) .nil)) (.var 3)) (.var 1)) .nil)) .nil)))))))
   (.ret (.cons (.n 0) (.cons (.var 3) (.cons (.var 11) .nil)))))
theorem le18_1 : (loopVT Try.prog (sgOf sg18) (ltOf lt18) L18_1 lb18_1).slim L18_1.nv [] = rt18_1 := by kernel_rfl
theorem lf18_1 : (firstRegion lb18_1).bind (ltOf lt18) = some L18_1 := by kernel_rfl
theorem lk18_1 : (Code.loops lb18_1).length = 0 := by kernel_rfl
def vt18 : VT :=
  (.need (.t true) (.pre 11 (.cons (.var 0) (.cons (.var 1) (.cons (.var 2) (.cons (.var 3) (.cons (.var 4) .nil))))))
  (.lt (.app 11 (.cons (.var 0) (.cons (.var 1) (.cons (.var 2) (.cons (.var 3) (.cons (.var 4) .nil))))) 0) 1
  (.ite (.un .not (.bin .eq (.var 7) (.n 0)))
   (.ret (.cons (.n 0) (.cons (.n 0) (.cons (.n 0) (.cons (.n 0) (.cons .lnil (.cons (.n 1) .nil)))))))
   (.ite (.bin .eq (.un .len (.var 4)) (.n 0))
    (.ret (.cons (.n 0) (.cons (.n 0) (.cons (.n 0) (.cons (.n 0) (.cons .lnil (.cons (.n 0) .nil)))))))
    (.need (.un .not (.ite (.ite (.ite (.bin .lt (.var 5) (.n (-536870912))) (.t true) (.bin .lt (.n 536870912) (.var 5))) (.t true) (.bin .lt (.var 6) (.n (-536870912)))) (.t true) (.bin .lt (.n 536870912) (.var 6)))) (.pre 36 (.cons (.var 0) (.cons (.var 1) (.cons (.var 2) (.cons (.var 3) (.cons (.var 5) (.cons (.var 6) .nil)))))))
    (.lt (.app 36 (.cons (.var 0) (.cons (.var 1) (.cons (.var 2) (.cons (.var 3) (.cons (.var 5) (.cons (.var 6) .nil)))))) 0) 4
    (.need (.un .not (.ite (.ite (.ite (.bin .lt (.var 5) (.n (-536870912))) (.t true) (.bin .lt (.n 536870912) (.var 5))) (.t true) (.bin .lt (.var 6) (.n (-536870912)))) (.t true) (.bin .lt (.n 536870912) (.var 6)))) (.pre 35 (.cons (.var 8) (.cons (.var 9) (.cons (.var 10) (.cons (.var 11) .nil)))))
    (.lt (.app 35 (.cons (.var 8) (.cons (.var 9) (.cons (.var 10) (.cons (.var 11) .nil)))) 0) 1
    (.ite (.ite (.ite (.ite (.ite (.bin .lt (.var 5) (.n (-536870912))) (.t true) (.bin .lt (.n 536870912) (.var 5))) (.t true) (.bin .lt (.var 6) (.n (-536870912)))) (.t true) (.bin .lt (.n 536870912) (.var 6))) (.t true) (.un .not (.var 12)))
     (.ret (.cons (.n 0) (.cons (.n 0) (.cons (.n 0) (.cons (.n 0) (.cons .lnil (.cons (.n 3) .nil)))))))
     (.need (.t true) (.pre 36 (.cons (.var 0) (.cons (.var 1) (.cons (.var 2) (.cons (.var 3) (.cons (.var 5) (.cons (.var 6) .nil)))))))
     (.lt (.app 36 (.cons (.var 0) (.cons (.var 1) (.cons (.var 2) (.cons (.var 3) (.cons (.var 5) (.cons (.var 6) .nil)))))) 0) 4
     (.need (.t true) (.pre 11801 (.cons (.var 5) (.cons (.var 6) (.cons (.var 4) (.cons (.un .len (.var 4)) (.cons (.n 0) (.cons (.var 13) (.cons (.var 14) (.cons (.var 15) (.cons (.var 16) (.cons .lnil .nil)))))))))))
     (.lt (.app 11801 (.cons (.var 5) (.cons (.var 6) (.cons (.var 4) (.cons (.un .len (.var 4)) (.cons (.n 0) (.cons (.var 13) (.cons (.var 14) (.cons (.var 15) (.cons (.var 16) (.cons .lnil .nil)))))))))) 0) 3
     (.ret (.cons (.var 13) (.cons (.var 14) (.cons (.var 15) (.cons (.var 16) (.cons (.var 19) (.cons (.n 0) .nil))))))))))))))))))))
theorem e18 : (fnVT Try.prog (sgOf sg18) (ltOf lt18) S18 Try.f18 c18).slim (S18.ps.map fun p => p.2.length).sum [] = vt18 := by kernel_rfl
def S10 : Sig := ⟨[], [(false, [.bool])], [], none⟩
noncomputable def c10 : Code := Try.f10.body.getD .skip
theorem b10 : Try.f10.body = some c10 := body_some (by kernel_rfl)
theorem n10 : (Try.f10.name == "runtime.NumGoroutine") = false := by kernel_rfl
def sg10 : List (FuncId × Sig) := [(15, S15), (18, S18), (11, S11)]
def lt10 : List (Nat × LoopSig) := []
theorem k10 : (Code.loops c10).length = 0 := by kernel_rfl
def vt10 : VT :=
  (.need (.t true) (.pre 15 (.cons (.str ⟨#[103]⟩) (.cons (.t false) (.cons (.lcons (.cons (.str ⟨#[97]⟩) (.cons (.str ⟨#[97]⟩) (.cons (.n 20) (.cons (.n 10) (.cons (.n (-1)) (.cons .lnil .nil)))))) .lnil) (.cons .lnil (.cons .lnil (.cons (.lcons (.cons (.n 0) (.cons (.n 0) (.cons (.n 20) (.cons (.n 10) .nil)))) .lnil) (.cons .lnil (.cons .lnil (.cons .lnil (.cons (.n 0) (.cons (.n 0) (.cons (.n 0) (.cons (.n 0) (.cons (.n 0) (.cons (.n 0) (.cons .lnil .nil)))))))))))))))))
  (.lt (.app 15 (.cons (.str ⟨#[103]⟩) (.cons (.t false) (.cons (.lcons (.cons (.str ⟨#[97]⟩) (.cons (.str ⟨#[97]⟩) (.cons (.n 20) (.cons (.n 10) (.cons (.n (-1)) (.cons .lnil .nil)))))) .lnil) (.cons .lnil (.cons .lnil (.cons (.lcons (.cons (.n 0) (.cons (.n 0) (.cons (.n 20) (.cons (.n 10) .nil)))) .lnil) (.cons .lnil (.cons .lnil (.cons .lnil (.cons (.n 0) (.cons (.n 0) (.cons (.n 0) (.cons (.n 0) (.cons (.n 0) (.cons (.n 0) (.cons .lnil .nil)))))))))))))))) 0) 6
  (.need (.t true) (.pre 15 (.cons (.str ⟨#[103]⟩) (.cons (.t false) (.cons (.lcons (.cons (.str ⟨#[97]⟩) (.cons (.str ⟨#[97]⟩) (.cons (.n 20) (.cons (.n 10) (.cons (.n (-1)) (.cons .lnil .nil)))))) .lnil) (.cons .lnil (.cons .lnil (.cons .lnil (.cons .lnil (.cons .lnil (.cons .lnil (.cons (.n 0) (.cons (.n 0) (.cons (.n 0) (.cons (.n 0) (.cons (.n 0) (.cons (.n 0) (.cons .lnil .nil)))))))))))))))))
  (.lt (.app 15 (.cons (.str ⟨#[103]⟩) (.cons (.t false) (.cons (.lcons (.cons (.str ⟨#[97]⟩) (.cons (.str ⟨#[97]⟩) (.cons (.n 20) (.cons (.n 10) (.cons (.n (-1)) (.cons .lnil .nil)))))) .lnil) (.cons .lnil (.cons .lnil (.cons .lnil (.cons .lnil (.cons .lnil (.cons .lnil (.cons (.n 0) (.cons (.n 0) (.cons (.n 0) (.cons (.n 0) (.cons (.n 0) (.cons (.n 0) (.cons .lnil .nil)))))))))))))))) 0) 6
  (.need (.t true) (.pre 18 (.cons (.var 0) (.cons (.var 1) (.cons (.var 2) (.cons (.var 3) (.cons (.var 4) (.cons (.n 268435456) (.cons (.n 0) .nil))))))))
  (.lt (.app 18 (.cons (.var 0) (.cons (.var 1) (.cons (.var 2) (.cons (.var 3) (.cons (.var 4) (.cons (.n 268435456) (.cons (.n 0) .nil))))))) 0) 6
  (.need (.t true) (.pre 18 (.cons (.var 0) (.cons (.var 1) (.cons (.var 2) (.cons (.var 3) (.cons (.var 4) (.cons (.n 1) (.cons (.n 2) .nil))))))))
  (.lt (.app 18 (.cons (.var 0) (.cons (.var 1) (.cons (.var 2) (.cons (.var 3) (.cons (.var 4) (.cons (.n 1) (.cons (.n 2) .nil))))))) 0) 6
  (.need (.ite (.bin .eq (.var 5) (.n 0)) (.bin .eq (.un .len (.var 4)) (.n 2)) (.t false)) (.c (.bin .lt (.n 1) (.un .len (.var 4))))
  (.need (.ite (.ite (.ite (.ite (.ite (.ite (.ite (.bin .eq (.var 5) (.n 0)) (.bin .eq (.un .len (.var 4)) (.n 2)) (.t false)) (.bin .eq (.sel 0 (.var 4) (.n 1)) (.n 4)) (.t false)) (.ite (.bin .eq (.var 0) (.n 0)) (.ite (.bin .eq (.var 1) (.n 0)) (.ite (.bin .eq (.var 2) (.n 20)) (.bin .eq (.var 3) (.n 10)) (.t false)) (.t false)) (.t false)) (.t false)) (.bin .eq (.var 11) (.n 1)) (.t false)) (.bin .eq (.var 17) (.n 3)) (.t false)) (.bin .eq (.var 23) (.n 0)) (.t false)) (.ite (.bin .eq (.var 18) (.n 1)) (.ite (.bin .eq (.var 19) (.n 2)) (.ite (.bin .eq (.var 20) (.n 21)) (.bin .eq (.var 21) (.n 12)) (.t false)) (.t false)) (.t false)) (.t false)) (.pre 11 (.cons (.n 5) (.cons (.n 5) (.cons (.n 5) (.cons (.n 5) (.cons (.lcons (.cons (.n 3) (.cons (.n 0) (.cons (.n 0) (.cons (.n 0) (.cons (.n 0) (.cons (.n 0) (.cons (.lcons (.cons (.n 5) (.cons (.n 5) .nil)) .lnil) (.cons (.str ⟨#[]⟩) .nil)))))))) .lnil) .nil))))))
  (.lt (.app 11 (.cons (.n 5) (.cons (.n 5) (.cons (.n 5) (.cons (.n 5) (.cons (.lcons (.cons (.n 3) (.cons (.n 0) (.cons (.n 0) (.cons (.n 0) (.cons (.n 0) (.cons (.n 0) (.cons (.lcons (.cons (.n 5) (.cons (.n 5) .nil)) .lnil) (.cons (.str ⟨#[]⟩) .nil)))))))) .lnil) .nil))))) 0) 1
  (.need (.ite (.ite (.ite (.ite (.ite (.ite (.ite (.ite (.bin .eq (.var 5) (.n 0)) (.bin .eq (.un .len (.var 4)) (.n 2)) (.t false)) (.bin .eq (.sel 0 (.var 4) (.n 1)) (.n 4)) (.t false)) (.ite (.bin .eq (.var 0) (.n 0)) (.ite (.bin .eq (.var 1) (.n 0)) (.ite (.bin .eq (.var 2) (.n 20)) (.bin .eq (.var 3) (.n 10)) (.t false)) (.t false)) (.t false)) (.t false)) (.bin .eq (.var 11) (.n 1)) (.t false)) (.bin .eq (.var 17) (.n 3)) (.t false)) (.bin .eq (.var 23) (.n 0)) (.t false)) (.ite (.bin .eq (.var 18) (.n 1)) (.ite (.bin .eq (.var 19) (.n 2)) (.ite (.bin .eq (.var 20) (.n 21)) (.bin .eq (.var 21) (.n 12)) (.t false)) (.t false)) (.t false)) (.t false)) (.bin .eq (.var 24) (.n 0)) (.t false)) (.pre 11 (.cons (.n 0) (.cons (.n 0) (.cons (.n 5) (.cons (.n 5) (.cons (.lcons (.cons (.n 3) (.cons (.n 0) (.cons (.n 0) (.cons (.n 0) (.cons (.n 0) (.cons (.n 0) (.cons (.lcons (.cons (.n 5) (.cons (.n 5) .nil)) .lnil) (.cons (.str ⟨#[]⟩) .nil)))))))) .lnil) .nil))))))
  (.lt (.app 11 (.cons (.n 0) (.cons (.n 0) (.cons (.n 5) (.cons (.n 5) (.cons (.lcons (.cons (.n 3) (.cons (.n 0) (.cons (.n 0) (.cons (.n 0) (.cons (.n 0) (.cons (.n 0) (.cons (.lcons (.cons (.n 5) (.cons (.n 5) .nil)) .lnil) (.cons (.str ⟨#[]⟩) .nil)))))))) .lnil) .nil))))) 0) 1
  (.ret (.cons (.ite (.ite (.ite (.ite (.ite (.ite (.ite (.ite (.ite (.bin .eq (.var 5) (.n 0)) (.bin .eq (.un .len (.var 4)) (.n 2)) (.t false)) (.bin .eq (.sel 0 (.var 4) (.n 1)) (.n 4)) (.t false)) (.ite (.bin .eq (.var 0) (.n 0)) (.ite (.bin .eq (.var 1) (.n 0)) (.ite (.bin .eq (.var 2) (.n 20)) (.bin .eq (.var 3) (.n 10)) (.t false)) (.t false)) (.t false)) (.t false)) (.bin .eq (.var 11) (.n 1)) (.t false)) (.bin .eq (.var 17) (.n 3)) (.t false)) (.bin .eq (.var 23) (.n 0)) (.t false)) (.ite (.bin .eq (.var 18) (.n 1)) (.ite (.bin .eq (.var 19) (.n 2)) (.ite (.bin .eq (.var 20) (.n 21)) (.bin .eq (.var 21) (.n 12)) (.t false)) (.t false)) (.t false)) (.t false)) (.bin .eq (.var 24) (.n 0)) (.t false)) (.bin .eq (.var 25) (.n 13)) (.t false)) .nil)))))))))))))))
theorem e10 : (fnVT Try.prog (sgOf sg10) (ltOf lt10) S10 Try.f10 c10).slim (S10.ps.map fun p => p.2.length).sum [] = vt10 := by kernel_rfl
def vt46 : VT :=
  (.ret (.cons (.ite (.ite (.ite (.bin .le (.n (-268435456)) (.var 0)) (.bin .le (.var 0) (.n 268435456)) (.t false)) (.bin .le (.n (-268435456)) (.var 1)) (.t false)) (.bin .le (.var 1) (.n 268435456)) (.t false)) .nil))
def T46 : FuncId → List D → List D := tabOf []
def fn46 (ρ : List D) : List D := vt46.val T46 ρ
def vt27 : VT :=
  (.ret (.cons (.ite (.ite (.ite (.ite (.ite (.bin .le (.n (-268435456)) (.var 0)) (.bin .le (.n (-268435456)) (.var 1)) (.t false)) (.bin .le (.var 2) (.n 268435456)) (.t false)) (.bin .le (.var 3) (.n 268435456)) (.t false)) (.bin .le (.var 0) (.var 2)) (.t false)) (.bin .le (.var 1) (.var 3)) (.t false)) .nil))
def T27 : FuncId → List D → List D := tabOf []
def fn27 (ρ : List D) : List D := vt27.val T27 ρ
def S14 : Sig := ⟨[(false, [(.sl 50 [i6, i6, i6, i6, i6, i6, (.sl 60 [i6, i6]), .str])])], [(true, [i6, i6, i6, i6])], [], none⟩
def S12 : Sig := ⟨[(true, [i6, i6, i6, i6, (.sl 50 [i6, i6, i6, i6, i6, i6, (.sl 60 [i6, i6]), .str])])], [(false, [i6])], [], none⟩
def S3 : Sig := ⟨[(true, [i6, i6, i6, i6, (.sl 50 [i6, i6, i6, i6, i6, i6, (.sl 60 [i6, i6]), .str])])], [(false, [.bool])], [], none⟩
noncomputable def c3 : Code := Try.f3.body.getD .skip
theorem b3 : Try.f3.body = some c3 := body_some (by kernel_rfl)
theorem n3 : (Try.f3.name == "runtime.NumGoroutine") = false := by kernel_rfl
def sg3 : List (FuncId × Sig) := [(9, S9), (10, S10), (11, S11), (12, S12), (13, S13), (14, S14)]
def lt3 : List (Nat × LoopSig) := []
theorem k3 : (Code.loops c3).length = 0 := by kernel_rfl
def vt3 : VT :=
  (.need (.t true) (.pre 9 (.cons (.var 0) (.cons (.var 1) (.cons (.var 2) (.cons (.var 3) (.cons (.var 4) .nil))))))
  (.lt (.app 9 (.cons (.var 0) (.cons (.var 1) (.cons (.var 2) (.cons (.var 3) (.cons (.var 4) .nil))))) 0) 1
  (.ite (.un .not (.var 5))
   (.need (.t true) (.pre 10 .nil)
   (.lt (.app 10 .nil 0) 1
   (.ret (.cons (.var 6) .nil))))
   (.need (.t true) (.pre 11 (.cons (.var 0) (.cons (.var 1) (.cons (.var 2) (.cons (.var 3) (.cons (.var 4) .nil))))))
   (.lt (.app 11 (.cons (.var 0) (.cons (.var 1) (.cons (.var 2) (.cons (.var 3) (.cons (.var 4) .nil))))) 0) 1
   (.need (.t true) (.pre 12 (.cons (.var 0) (.cons (.var 1) (.cons (.var 2) (.cons (.var 3) (.cons (.var 4) .nil))))))
   (.lt (.app 12 (.cons (.var 0) (.cons (.var 1) (.cons (.var 2) (.cons (.var 3) (.cons (.var 4) .nil))))) 0) 1
   (.need (.bin .eq (.var 6) (.var 7)) (.pre 13 (.cons (.var 4) .nil))
   (.lt (.app 13 (.cons (.var 4) .nil) 0) 4
   (.need (.bin .eq (.var 6) (.var 7)) (.pre 14 (.cons (.var 4) .nil))
   (.lt (.app 14 (.cons (.var 4) .nil) 0) 4
   (.need (.ite (.bin .eq (.var 6) (.var 7)) (.ite (.bin .eq (.var 8) (.var 12)) (.ite (.bin .eq (.var 9) (.var 13)) (.ite (.bin .eq (.var 10) (.var 14)) (.bin .eq (.var 11) (.var 15)) (.t false)) (.t false)) (.t false)) (.t false)) (.pre 10 .nil)
   (.lt (.app 10 .nil 0) 1
   (.ret (.cons (.ite (.ite (.bin .eq (.var 6) (.var 7)) (.ite (.bin .eq (.var 8) (.var 12)) (.ite (.bin .eq (.var 9) (.var 13)) (.ite (.bin .eq (.var 10) (.var 14)) (.bin .eq (.var 11) (.var 15)) (.t false)) (.t false)) (.t false)) (.t false)) (.var 16) (.t false)) .nil)))))))))))))))
theorem e3 : (fnVT Try.prog (sgOf sg3) (ltOf lt3) S3 Try.f3 c3).slim (S3.ps.map fun p => p.2.length).sum [] = vt3 := by kernel_rfl
def S74 : Sig := ⟨[(false, [(.int .u8)])], [(false, [.bool])], [], none⟩
noncomputable def c74 : Code := Try.f74.body.getD .skip
theorem b74 : Try.f74.body = some c74 := body_some (by kernel_rfl)
theorem n74 : (Try.f74.name == "runtime.NumGoroutine") = false := by kernel_rfl
def sg74 : List (FuncId × Sig) := []
def lt74 : List (Nat × LoopSig) := []
theorem k74 : (Code.loops c74).length = 0 := by kernel_rfl
def vt74 : VT :=
  (.ret (.cons (.ite (.ite (.ite (.bin .le (.n 97) (.var 0)) (.bin .le (.var 0) (.n 122)) (.t false)) (.t true) (.ite (.bin .le (.n 65) (.var 0)) (.bin .le (.var 0) (.n 90)) (.t false))) (.t true) (.bin .eq (.var 0) (.n 95))) .nil))
theorem e74 : (fnVT Try.prog (sgOf sg74) (ltOf lt74) S74 Try.f74 c74).slim (S74.ps.map fun p => p.2.length).sum [] = vt74 := by kernel_rfl
def T74 : FuncId → List D → List D := tabOf []
def fn74 (ρ : List D) : List D := vt74.val T74 ρ
theorem m74 : Meets Try.prog 74 S74 (fun _ => True) fn74 := meets_easy (sgl := sg74) (Φ := T74) mixed ((fun _ h => nomatch h)) Try.func74 b74 n74 k74 e74 (by kernel_rfl)
def S75 : Sig := ⟨[(false, [(.int .u8)])], [(false, [.bool])], [], none⟩
noncomputable def c75 : Code := Try.f75.body.getD .skip
theorem b75 : Try.f75.body = some c75 := body_some (by kernel_rfl)
theorem n75 : (Try.f75.name == "runtime.NumGoroutine") = false := by kernel_rfl
def sg75 : List (FuncId × Sig) := []
def lt75 : List (Nat × LoopSig) := []
theorem k75 : (Code.loops c75).length = 0 := by kernel_rfl
def vt75 : VT :=
  (.ret (.cons (.ite (.bin .le (.n 48) (.var 0)) (.bin .le (.var 0) (.n 57)) (.t false)) .nil))
theorem e75 : (fnVT Try.prog (sgOf sg75) (ltOf lt75) S75 Try.f75 c75).slim (S75.ps.map fun p => p.2.length).sum [] = vt75 := by kernel_rfl
def T75 : FuncId → List D → List D := tabOf []
def fn75 (ρ : List D) : List D := vt75.val T75 ρ
theorem m75 : Meets Try.prog 75 S75 (fun _ => True) fn75 := meets_easy (sgl := sg75) (Φ := T75) mixed ((fun _ h => nomatch h)) Try.func75 b75 n75 k75 e75 (by kernel_rfl)
def S56 : Sig := ⟨[(false, [.str])], [(false, [i6])], [], none⟩
noncomputable def c56 : Code := Try.f56.body.getD .skip
theorem b56 : Try.f56.body = some c56 := body_some (by kernel_rfl)
theorem n56 : (Try.f56.name == "runtime.NumGoroutine") = false := by kernel_rfl
def sg56 : List (FuncId × Sig) := [(74, S74), (75, S75)]
def L56_0 : LoopSig := ⟨15600, [],
   ⟨[(.c (.x .str (.var 0))), .any, .any, (.c (.x i6 (.var 1))), .any, .any, .any, .any, .any, .any, .any, .any, .any, .any, .any, .any, .any, .any, .any, .any, .any, .any, .any, .any, .any, .any, .any],
    []⟩,
   2, [1], [4, 5, 6, 7, 8, 9, 10, 11, 12, 13, 14, 15, 16, 17, 18, 19, 20, 21, 22, 23, 24, 25, 3], [(.exit 0)], []⟩
def lt56 : List (Nat × LoopSig) := [(2, L56_0)]
theorem k56 : (Code.loops c56).length = 1 := by kernel_rfl
noncomputable def lb56_0 : Code := (Code.loops c56).getD 0 .skip
def rt56_0 : VT :=
  (.need (.bin .lt (.var 1) (.un .slen (.var 0))) (.c (.bin .le (.n 0) (.var 1)))
  (.need (.bin .lt (.var 1) (.un .slen (.var 0))) (.c (.bin .lt (.var 1) (.un .slen (.var 0))))
  (.need (.bin .lt (.var 1) (.un .slen (.var 0))) (.pre 74 (.cons (.bin .sidx (.var 0) (.var 1)) .nil))
  (.lt (.app 74 (.cons (.bin .sidx (.var 0) (.var 1)) .nil) 0) 1
  (.need (.ite (.ite (.bin .lt (.var 1) (.un .slen (.var 0))) (.un .not (.var 2)) (.t false)) (.bin .lt (.n 0) (.var 1)) (.t false)) (.c (.bin .le (.n 0) (.var 1)))
  (.need (.ite (.ite (.bin .lt (.var 1) (.un .slen (.var 0))) (.un .not (.var 2)) (.t false)) (.bin .lt (.n 0) (.var 1)) (.t false)) (.c (.bin .lt (.var 1) (.un .slen (.var 0))))
  (.need (.ite (.ite (.bin .lt (.var 1) (.un .slen (.var 0))) (.un .not (.var 2)) (.t false)) (.bin .lt (.n 0) (.var 1)) (.t false)) (.pre 75 (.cons (.bin .sidx (.var 0) (.var 1)) .nil))
  (.lt (.app 75 (.cons (.bin .sidx (.var 0) (.var 1)) .nil) 0) 1
  (.ite (.ite (.bin .lt (.var 1) (.un .slen (.var 0))) (.ite (.var 2) (.t true) (.ite (.bin .lt (.n 0) (.var 1)) (.var 3) (.t false))) (.t false))
   (.ret (.cons (.n (-1)) (.cons (.bin (.add .i64) (.var 1) (.n 1)) .nil)))
   (.ret (.cons (.n 0) (.cons (.var 1) .nil))))))))))))
theorem le56_0 : (loopVT Try.prog (sgOf sg56) (ltOf lt56) L56_0 lb56_0).slim L56_0.nv [] = rt56_0 := by kernel_rfl
theorem lf56_0 : (firstRegion lb56_0).bind (ltOf lt56) = some L56_0 := by kernel_rfl
theorem lk56_0 : (Code.loops lb56_0).length = 0 := by kernel_rfl
def vt56 : VT :=
  (.need (.t true) (.pre 15600 (.cons (.var 0) (.cons (.n 0) .nil)))
  (.lt (.app 15600 (.cons (.var 0) (.cons (.n 0) .nil)) 0) 2
  (.ret (.cons (.var 2) .nil))))
theorem e56 : (fnVT Try.prog (sgOf sg56) (ltOf lt56) S56 Try.f56 c56).slim (S56.ps.map fun p => p.2.length).sum [] = vt56 := by kernel_rfl
def S57 : Sig := ⟨[(false, [.str])], [(false, [.bool])], [], none⟩
noncomputable def c57 : Code := Try.f57.body.getD .skip
theorem b57 : Try.f57.body = some c57 := body_some (by kernel_rfl)
theorem n57 : (Try.f57.name == "runtime.NumGoroutine") = false := by kernel_rfl
def sg57 : List (FuncId × Sig) := []
def lt57 : List (Nat × LoopSig) := []
theorem k57 : (Code.loops c57).length = 0 := by kernel_rfl
def vt57 : VT :=
  (.ite (.bin .seq (.var 0) (.str ⟨#[100, 105, 103, 114, 97, 112, 104]⟩))
   (.ret (.cons (.t true) .nil))
   (.ite (.bin .seq (.var 0) (.str ⟨#[103, 114, 97, 112, 104]⟩))
    (.ret (.cons (.t true) .nil))
    (.ite (.bin .seq (.var 0) (.str ⟨#[110, 111, 100, 101]⟩))
     (.ret (.cons (.t true) .nil))
     (.ite (.bin .seq (.var 0) (.str ⟨#[101, 100, 103, 101]⟩))
      (.ret (.cons (.t true) .nil))
      (.ite (.bin .seq (.var 0) (.str ⟨#[115, 101, 116]⟩))
       (.ret (.cons (.t true) .nil))
       (.ite (.bin .seq (.var 0) (.str ⟨#[99, 108, 117, 115, 116, 101, 114]⟩))
        (.ret (.cons (.t true) .nil))
        (.ret (.cons (.t false) .nil))))))))
theorem e57 : (fnVT Try.prog (sgOf sg57) (ltOf lt57) S57 Try.f57 c57).slim (S57.ps.map fun p => p.2.length).sum [] = vt57 := by kernel_rfl
def T57 : FuncId → List D → List D := tabOf []
def fn57 (ρ : List D) : List D := vt57.val T57 ρ
theorem m57 : Meets Try.prog 57 S57 (fun _ => True) fn57 := meets_easy (sgl := sg57) (Φ := T57) mixed ((fun _ h => nomatch h)) Try.func57 b57 n57 k57 e57 (by kernel_rfl)
def S38 : Sig := ⟨[(false, [.str])], [(false, [.bool])], [], none⟩
noncomputable def c38 : Code := Try.f38.body.getD .skip
theorem b38 : Try.f38.body = some c38 := body_some (by kernel_rfl)
theorem n38 : (Try.f38.name == "runtime.NumGoroutine") = false := by kernel_rfl
def sg38 : List (FuncId × Sig) := [(56, S56), (57, S57)]
def lt38 : List (Nat × LoopSig) := []
theorem k38 : (Code.loops c38).length = 0 := by kernel_rfl
def vt38 : VT :=
  (.need (.un .not (.bin .seq (.var 0) (.str ⟨#[]⟩))) (.pre 56 (.cons (.var 0) .nil))
  (.lt (.app 56 (.cons (.var 0) .nil) 0) 1
  (.need (.ite (.ite (.un .not (.bin .seq (.var 0) (.str ⟨#[]⟩))) (.bin .eq (.var 1) (.un .slen (.var 0))) (.t false)) (.bin .le (.un .slen (.var 0)) (.n 16)) (.t false)) (.pre 57 (.cons (.var 0) .nil))
  (.lt (.app 57 (.cons (.var 0) .nil) 0) 1
  (.ret (.cons (.ite (.ite (.ite (.un .not (.bin .seq (.var 0) (.str ⟨#[]⟩))) (.bin .eq (.var 1) (.un .slen (.var 0))) (.t false)) (.bin .le (.un .slen (.var 0)) (.n 16)) (.t false)) (.un .not (.var 2)) (.t false)) .nil))))))
theorem e38 : (fnVT Try.prog (sgOf sg38) (ltOf lt38) S38 Try.f38 c38).slim (S38.ps.map fun p => p.2.length).sum [] = vt38 := by kernel_rfl
def S58 : Sig := ⟨[(true, [.str, .bool, (.sl 58 [.str, .str, i6, i6, i6, (.sl 103 [.str, i6])]), (.sl 75 [i6, i6, i6, i6, .str, i6, i6]), (.sl 52 [.str, i6])]), (false, [.str])], [(false, [i6])], [], none⟩
noncomputable def c58 : Code := Try.f58.body.getD .skip
theorem b58 : Try.f58.body = some c58 := body_some (by kernel_rfl)
theorem n58 : (Try.f58.name == "runtime.NumGoroutine") = false := by kernel_rfl
def sg58 : List (FuncId × Sig) := []
def L58_0 : LoopSig := ⟨15800, [],
   ⟨[.any, (.c (.x .str (.var 0))), (.c (.ptr 0 0)), .any, (.c (.x i6 (.var 1))), (.c (.x i6 (.var 2))), .any, .any, .any, .any, .any, .any, .any, .any, .any, .any, .any, .any, .any, .any, .any, .any],
    [some ⟨(.t true), (.box 36 [(.x .str (.var 3)), (.x .bool (.var 4)), (.x (.sl 58 [.str, .str, i6, i6, i6, (.sl 103 [.str, i6])]) (.var 5)), (.x (.sl 75 [i6, i6, i6, i6, .str, i6, i6]) (.var 6)), (.x (.sl 52 [.str, i6]) (.var 7))] false)⟩]⟩,
   8, [1, 2], [6, 7, 8, 9, 10, 13, 14, 15, 16, 17, 18, 19, 20, 21, 4, 11, 12, 5], [.ret, (.exit 0)], []⟩
def lt58 : List (Nat × LoopSig) := [(2, L58_0)]
theorem k58 : (Code.loops c58).length = 1 := by kernel_rfl
noncomputable def lb58_0 : Code := (Code.loops c58).getD 0 .skip
def rt58_0 : VT :=
  (.ite (.bin .lt (.var 2) (.un .len (.var 5)))
   (.need (.t true) (.c (.bin .le (.n 0) (.var 2)))
   (.ite (.bin .seq (.sel 0 (.var 5) (.var 2)) (.var 0))
    (.ret (.cons (.n 0) (.cons (.var 2) (.cons (.var 2) .nil))))
    (.ret (.cons (.n (-1)) (.cons (.var 1) (.cons (.bin (.add .i64) (.var 2) (.n 1)) .nil))))))
   (.ret (.cons (.n 1) (.cons (.var 1) (.cons (.var 2) .nil)))))
theorem le58_0 : (loopVT Try.prog (sgOf sg58) (ltOf lt58) L58_0 lb58_0).slim L58_0.nv [] = rt58_0 := by kernel_rfl
theorem lf58_0 : (firstRegion lb58_0).bind (ltOf lt58) = some L58_0 := by kernel_rfl
theorem lk58_0 : (Code.loops lb58_0).length = 0 := by kernel_rfl
def vt58 : VT :=
  (.need (.t true) (.pre 15800 (.cons (.var 5) (.cons (.n 0) (.cons (.n 0) (.cons (.var 0) (.cons (.var 1) (.cons (.var 2) (.cons (.var 3) (.cons (.var 4) .nil)))))))))
  (.lt (.app 15800 (.cons (.var 5) (.cons (.n 0) (.cons (.n 0) (.cons (.var 0) (.cons (.var 1) (.cons (.var 2) (.cons (.var 3) (.cons (.var 4) .nil)))))))) 0) 3
  (.ite (.bin .eq (.var 6) (.n 0))
   (.ret (.cons (.var 7) .nil))
   (.ret (.cons (.n (-1)) .nil)))))
theorem e58 : (fnVT Try.prog (sgOf sg58) (ltOf lt58) S58 Try.f58 c58).slim (S58.ps.map fun p => p.2.length).sum [] = vt58 := by kernel_rfl
def S59 : Sig := ⟨[(false, [.str])], [(false, [.bool])], [], none⟩
noncomputable def c59 : Code := Try.f59.body.getD .skip
theorem b59 : Try.f59.body = some c59 := body_some (by kernel_rfl)
theorem n59 : (Try.f59.name == "runtime.NumGoroutine") = false := by kernel_rfl
def sg59 : List (FuncId × Sig) := []
def L59_0 : LoopSig := ⟨15900, [],
   ⟨[(.c (.x .str (.var 0))), .any, (.c (.x .bool (.var 1))), (.c (.x i6 (.var 2))), .any, .any, .any, .any, .any, .any, .any, .any, .any, .any, .any, .any, .any, .any, .any, .any],
    []⟩,
   3, [1, 2], [4, 5, 6, 7, 10, 11, 12, 13, 14, 15, 16, 17, 18, 19, 2, 8, 9, 3], [.ret, (.exit 0)], []⟩
def lt59 : List (Nat × LoopSig) := [(2, L59_0)]
theorem k59 : (Code.loops c59).length = 1 := by kernel_rfl
noncomputable def lb59_0 : Code := (Code.loops c59).getD 0 .skip
def rt59_0 : VT :=
  (.ite (.bin .lt (.var 2) (.un .slen (.var 0)))
   (.need (.t true) (.c (.bin .le (.n 0) (.var 2)))
   (.ite (.ite (.bin .lt (.bin .sidx (.var 0) (.var 2)) (.n 32)) (.t true) (.bin .lt (.n 126) (.bin .sidx (.var 0) (.var 2))))
    (.ret (.cons (.n 0) (.cons (.t false) (.cons (.var 2) .nil))))
    (.ret (.cons (.n (-1)) (.cons (.var 1) (.cons (.bin (.add .i64) (.var 2) (.n 1)) .nil))))))
   (.ret (.cons (.n 1) (.cons (.var 1) (.cons (.var 2) .nil)))))
theorem le59_0 : (loopVT Try.prog (sgOf sg59) (ltOf lt59) L59_0 lb59_0).slim L59_0.nv [] = rt59_0 := by kernel_rfl
theorem lf59_0 : (firstRegion lb59_0).bind (ltOf lt59) = some L59_0 := by kernel_rfl
theorem lk59_0 : (Code.loops lb59_0).length = 0 := by kernel_rfl
def vt59 : VT :=
  (.need (.t true) (.pre 15900 (.cons (.var 0) (.cons (.t false) (.cons (.n 0) .nil))))
  (.lt (.app 15900 (.cons (.var 0) (.cons (.t false) (.cons (.n 0) .nil))) 0) 3
  (.ite (.bin .eq (.var 1) (.n 0))
   (.ret (.cons (.var 2) .nil))
   (.ret (.cons (.t true) .nil)))))
theorem e59 : (fnVT Try.prog (sgOf sg59) (ltOf lt59) S59 Try.f59 c59).slim (S59.ps.map fun p => p.2.length).sum [] = vt59 := by kernel_rfl
def S60 : Sig := ⟨[(false, [(.sl 103 [.str, i6])])], [(false, [i6])], [], none⟩
noncomputable def c60 : Code := Try.f60.body.getD .skip
theorem b60 : Try.f60.body = some c60 := body_some (by kernel_rfl)
theorem n60 : (Try.f60.name == "runtime.NumGoroutine") = false := by kernel_rfl
def sg60 : List (FuncId × Sig) := [(38, S38)]
def L60_0 : LoopSig := ⟨16001, [],
   ⟨[(.c (.x (.sl 103 [.str, i6]) (.var 0))), .any, (.c (.x i6 (.var 1))), (.c (.x i6 (.var 2))), .any, .any, .any, .any, .any, .any, .any, .any, .any, .any, .any, .any, .any, .any, .any, .any, .any, .any, .any, .any, .any, .any, .any, .any, .any, .any, .any, .any, .any, .any, .any, .any, .any, .any, .any, .any, .any, .any, .any, .any, .any, .any, .any, .any],
    []⟩,
   3, [1, 2], [5, 6, 7, 8, 11, 12, 13, 14, 15, 16, 17, 2, 4, 18, 19, 20, 23, 24, 25, 26, 27, 28, 29, 30, 31, 32, 33, 21, 22, 34, 35, 36, 37, 38, 39, 40, 41, 42, 43, 44, 45, 46, 47, 9, 10, 3], [.ret, (.exit 0)], []⟩
def L60_1 : LoopSig := ⟨16000, [],
   ⟨[(.c (.x (.sl 103 [.str, i6]) (.var 0))), .any, (.c (.x i6 (.var 1))), (.c (.x i6 (.var 2))), (.c (.x i6 (.var 3))), .any, .any, .any, .any, .any, .any, .any, .any, .any, .any, .any, .any, .any, .any, .any, .any, .any, .any, .any, .any, .any, .any, .any, .any, .any, .any, .any, .any, .any, .any, .any, .any, .any, .any, .any, .any, .any, .any, .any, .any, .any, .any, .any],
    []⟩,
   4, [1, 3], [18, 19, 20, 23, 24, 25, 26, 27, 28, 29, 30, 31, 32, 33, 2, 21, 22, 4], [.ret, (.exit 2)], []⟩
def lt60 : List (Nat × LoopSig) := [(2, L60_0), (7, L60_1)]
theorem k60 : (Code.loops c60).length = 2 := by kernel_rfl
noncomputable def lb60_0 : Code := (Code.loops c60).getD 0 .skip
noncomputable def lb60_1 : Code := (Code.loops c60).getD 1 .skip
def rt60_0 : VT :=
  (.ite (.bin .lt (.var 2) (.un .len (.var 0)))
   (.need (.t true) (.c (.bin .le (.n 0) (.var 2)))
   (.need (.t true) (.pre 38 (.cons (.sel 0 (.var 0) (.var 2)) .nil))
   (.lt (.app 38 (.cons (.sel 0 (.var 0) (.var 2)) .nil) 0) 1
   (.ite (.un .not (.var 3))
    (.ret (.cons (.n 0) (.cons (.n 5) (.cons (.var 2) .nil))))
    (.need (.t true) (.pre 16000 (.cons (.var 0) (.cons (.var 1) (.cons (.var 2) (.cons (.n 0) .nil)))))
    (.lt (.app 16000 (.cons (.var 0) (.cons (.var 1) (.cons (.var 2) (.cons (.n 0) .nil)))) 0) 3
    (.ite (.bin .eq (.var 4) (.n 0))
     (.ret (.cons (.n 0) (.cons (.var 5) (.cons (.var 2) .nil))))
     (.ite (.ite (.bin .lt (.sel 1 (.var 0) (.var 2)) (.n 0)) (.t true) (.bin .lt (.n 3) (.sel 1 (.var 0) (.var 2))))
      (.ret (.cons (.n 0) (.cons (.n 7) (.cons (.var 2) .nil))))
      (.ret (.cons (.n (-1)) (.cons (.var 5) (.cons (.bin (.add .i64) (.var 2) (.n 1)) .nil))))))))))))
   (.ret (.cons (.n 1) (.cons (.var 1) (.cons (.var 2) .nil)))))
theorem le60_0 : (loopVT Try.prog (sgOf sg60) (ltOf lt60) L60_0 lb60_0).slim L60_0.nv [] = rt60_0 := by kernel_rfl
theorem lf60_0 : (firstRegion lb60_0).bind (ltOf lt60) = some L60_0 := by kernel_rfl
theorem lk60_0 : (Code.loops lb60_0).length = 1 := by kernel_rfl
theorem li60_0_0 : (Code.loops lb60_0).getD 0 .skip = lb60_1 := by kernel_rfl
def rt60_1 : VT :=
  (.ite (.bin .lt (.var 3) (.var 2))
   (.need (.t true) (.c (.bin .le (.n 0) (.var 3)))
   (.need (.t true) (.c (.bin .lt (.var 3) (.un .len (.var 0))))
   (.need (.t true) (.c (.bin .le (.n 0) (.var 2)))
   (.need (.t true) (.c (.bin .lt (.var 2) (.un .len (.var 0))))
   (.ite (.bin .seq (.sel 0 (.var 0) (.var 3)) (.sel 0 (.var 0) (.var 2)))
    (.ret (.cons (.n 0) (.cons (.n 6) (.cons (.var 3) .nil))))
    (.ret (.cons (.n (-1)) (.cons (.var 1) (.cons (.bin (.add .i64) (.var 3) (.n 1)) .nil)))))))))
   (.ret (.cons (.n 1) (.cons (.var 1) (.cons (.var 3) .nil)))))
theorem le60_1 : (loopVT Try.prog (sgOf sg60) (ltOf lt60) L60_1 lb60_1).slim L60_1.nv [] = rt60_1 := by kernel_rfl
theorem lf60_1 : (firstRegion lb60_1).bind (ltOf lt60) = some L60_1 := by kernel_rfl
theorem lk60_1 : (Code.loops lb60_1).length = 0 := by kernel_rfl
def vt60 : VT :=
  (.need (.t true) (.pre 16001 (.cons (.var 0) (.cons (.n 0) (.cons (.n 0) .nil))))
  (.lt (.app 16001 (.cons (.var 0) (.cons (.n 0) (.cons (.n 0) .nil))) 0) 3
  (.ite (.bin .eq (.var 1) (.n 0))
   (.ret (.cons (.var 2) .nil))
   (.ret (.cons (.n 0) .nil)))))
theorem e60 : (fnVT Try.prog (sgOf sg60) (ltOf lt60) S60 Try.f60 c60).slim (S60.ps.map fun p => p.2.length).sum [] = vt60 := by kernel_rfl
def S39 : Sig := ⟨[(true, [.str, .bool, (.sl 58 [.str, .str, i6, i6, i6, (.sl 103 [.str, i6])]), (.sl 75 [i6, i6, i6, i6, .str, i6, i6]), (.sl 52 [.str, i6])]), (false, [i6])], [(false, [i6])], [], none⟩
noncomputable def c39 : Code := Try.f39.body.getD .skip
theorem b39 : Try.f39.body = some c39 := body_some (by kernel_rfl)
theorem n39 : (Try.f39.name == "runtime.NumGoroutine") = false := by kernel_rfl
def sg39 : List (FuncId × Sig) := [(38, S38), (58, S58), (59, S59), (60, S60)]
def lt39 : List (Nat × LoopSig) := []
theorem k39 : (Code.loops c39).length = 0 := by kernel_rfl
def vt39 : VT :=
  (.need (.t true) (.c (.bin .le (.n 0) (.var 5)))
  (.need (.t true) (.c (.bin .lt (.var 5) (.un .len (.var 2))))
  (.need (.t true) (.pre 38 (.cons (.sel 0 (.var 2) (.var 5)) .nil))
  (.lt (.app 38 (.cons (.sel 0 (.var 2) (.var 5)) .nil) 0) 1
  (.ite (.un .not (.var 6))
   (.ret (.cons (.n 5) .nil))
   (.need (.t true) (.pre 58 (.cons (.var 0) (.cons (.var 1) (.cons (.var 2) (.cons (.var 3) (.cons (.var 4) (.cons (.sel 0 (.var 2) (.var 5)) .nil)))))))
   (.lt (.app 58 (.cons (.var 0) (.cons (.var 1) (.cons (.var 2) (.cons (.var 3) (.cons (.var 4) (.cons (.sel 0 (.var 2) (.var 5)) .nil)))))) 0) 1
   (.ite (.un .not (.bin .eq (.var 7) (.var 5)))
    (.ret (.cons (.n 6) .nil))
    (.ite (.bin .lt (.n 32) (.un .slen (.sel 1 (.var 2) (.var 5))))
     (.ret (.cons (.n 2) .nil))
     (.need (.t true) (.pre 59 (.cons (.sel 1 (.var 2) (.var 5)) .nil))
     (.lt (.app 59 (.cons (.sel 1 (.var 2) (.var 5)) .nil) 0) 1
     (.ite (.un .not (.var 8))
      (.ret (.cons (.n 7) .nil))
      (.ite (.ite (.ite (.ite (.ite (.ite (.bin .lt (.sel 2 (.var 2) (.var 5)) (.n 1)) (.t true) (.bin .lt (.n 1048576) (.sel 2 (.var 2) (.var 5)))) (.t true) (.bin .lt (.sel 3 (.var 2) (.var 5)) (.n 1))) (.t true) (.bin .lt (.n 1048576) (.sel 3 (.var 2) (.var 5)))) (.t true) (.bin .lt (.sel 4 (.var 2) (.var 5)) (.n (-1)))) (.t true) (.bin .le (.un .len (.var 4)) (.sel 4 (.var 2) (.var 5))))
       (.ret (.cons (.n 3) .nil))
       (.ite (.bin .lt (.n 8) (.un .len (.sel 5 (.var 2) (.var 5))))
        (.ret (.cons (.n 2) .nil))
        (.need (.t true) (.pre 60 (.cons (.sel 5 (.var 2) (.var 5)) .nil))
        (.lt (.app 60 (.cons (.sel 5 (.var 2) (.var 5)) .nil) 0) 1
        (.ret (.cons (.var 9) .nil))))))))))))))))))
theorem e39 : (fnVT Try.prog (sgOf sg39) (ltOf lt39) S39 Try.f39 c39).slim (S39.ps.map fun p => p.2.length).sum [] = vt39 := by kernel_rfl
def S54 : Sig := ⟨[(true, [.str, .bool, (.sl 58 [.str, .str, i6, i6, i6, (.sl 103 [.str, i6])]), (.sl 75 [i6, i6, i6, i6, .str, i6, i6]), (.sl 52 [.str, i6])]), (false, [i6])], [(false, [i6])], [], none⟩
noncomputable def c54 : Code := Try.f54.body.getD .skip
theorem b54 : Try.f54.body = some c54 := body_some (by kernel_rfl)
theorem n54 : (Try.f54.name == "runtime.NumGoroutine") = false := by kernel_rfl
def sg54 : List (FuncId × Sig) := []
def L54_0 : LoopSig := ⟨15400, [],
   ⟨[.any, (.c (.x i6 (.var 0))), (.c (.ptr 0 0)), .any, .any, (.c (.x i6 (.var 1))), .any, .any, .any, .any, .any, .any, .any, .any, .any, .any, .any],
    [some ⟨(.t true), (.box 36 [(.x .str (.var 2)), (.x .bool (.var 3)), (.x (.sl 58 [.str, .str, i6, i6, i6, (.sl 103 [.str, i6])]) (.var 4)), (.x (.sl 75 [i6, i6, i6, i6, .str, i6, i6]) (.var 5)), (.x (.sl 52 [.str, i6]) (.var 6))] false)⟩]⟩,
   7, [0, 1], [6, 7, 8, 9, 5, 10, 11, 12, 13, 14, 15, 1], [(.exit 0)], []⟩
def lt54 : List (Nat × LoopSig) := [(2, L54_0)]
theorem k54 : (Code.loops c54).length = 1 := by kernel_rfl
noncomputable def lb54_0 : Code := (Code.loops c54).getD 0 .skip
def rt54_0 : VT :=
  (.ite (.bin .le (.n 0) (.var 0))
   (.need (.t true) (.c (.bin .lt (.var 0) (.un .len (.var 6))))
   (.ret (.cons (.n (-1)) (.cons (.sel 1 (.var 6) (.var 0)) (.cons (.bin (.add .i64) (.var 1) (.n 1)) .nil)))))
   (.ret (.cons (.n 0) (.cons (.var 0) (.cons (.var 1) .nil)))))
theorem le54_0 : (loopVT Try.prog (sgOf sg54) (ltOf lt54) L54_0 lb54_0).slim L54_0.nv [] = rt54_0 := by kernel_rfl
theorem lf54_0 : (firstRegion lb54_0).bind (ltOf lt54) = some L54_0 := by kernel_rfl
theorem lk54_0 : (Code.loops lb54_0).length = 0 := by kernel_rfl
def vt54 : VT :=
  (.need (.t true) (.pre 15400 (.cons (.var 5) (.cons (.n 0) (.cons (.var 0) (.cons (.var 1) (.cons (.var 2) (.cons (.var 3) (.cons (.var 4) .nil))))))))
  (.lt (.app 15400 (.cons (.var 5) (.cons (.n 0) (.cons (.var 0) (.cons (.var 1) (.cons (.var 2) (.cons (.var 3) (.cons (.var 4) .nil))))))) 0) 3
  (.ret (.cons (.var 8) .nil))))
theorem e54 : (fnVT Try.prog (sgOf sg54) (ltOf lt54) S54 Try.f54 c54).slim (S54.ps.map fun p => p.2.length).sum [] = vt54 := by kernel_rfl
def S40 : Sig := ⟨[(true, [.str, .bool, (.sl 58 [.str, .str, i6, i6, i6, (.sl 103 [.str, i6])]), (.sl 75 [i6, i6, i6, i6, .str, i6, i6]), (.sl 52 [.str, i6])]), (false, [i6])], [(false, [i6])], [], none⟩
noncomputable def c40 : Code := Try.f40.body.getD .skip
theorem b40 : Try.f40.body = some c40 := body_some (by kernel_rfl)
theorem n40 : (Try.f40.name == "runtime.NumGoroutine") = false := by kernel_rfl
def sg40 : List (FuncId × Sig) := [(38, S38), (58, S58), (54, S54)]
def L40_0 : LoopSig := ⟨14000, [],
   ⟨[.any, (.c (.x i6 (.var 0))), (.c (.ptr 0 0)), .any, (.c (.x i6 (.var 1))), (.c (.ptr 1 0)), (.c (.x i6 (.var 2))), .any, .any, .any, .any, .any, .any, .any, .any, .any, .any, .any, .any, .any, .any, .any, .any, .any, .any, .any, .any, .any, .any, .any, .any, .any, .any, .any, .any, .any, .any, .any, .any, .any, .any, .any, .any, .any, .any, .any, .any, .any],
    [some ⟨(.t true), (.box 36 [(.x .str (.var 3)), (.x .bool (.var 4)), (.x (.sl 58 [.str, .str, i6, i6, i6, (.sl 103 [.str, i6])]) (.var 5)), (.x (.sl 75 [i6, i6, i6, i6, .str, i6, i6]) (.var 6)), (.x (.sl 52 [.str, i6]) (.var 7))] false)⟩, some ⟨(.t true), (.box 52 [(.x .str (.var 8)), (.x i6 (.var 9))] false)⟩]⟩,
   10, [1, 2], [16, 17, 18, 21, 22, 23, 24, 25, 26, 27, 28, 29, 4, 19, 20, 6], [.ret, (.exit 0)], []⟩
def lt40 : List (Nat × LoopSig) := [(5, L40_0)]
theorem k40 : (Code.loops c40).length = 1 := by kernel_rfl
noncomputable def lb40_0 : Code := (Code.loops c40).getD 0 .skip
def rt40_0 : VT :=
  (.ite (.bin .lt (.var 2) (.var 0))
   (.need (.t true) (.c (.bin .le (.n 0) (.var 2)))
   (.need (.t true) (.c (.bin .lt (.var 2) (.un .len (.var 7))))
   (.ite (.bin .seq (.sel 0 (.var 7) (.var 2)) (.var 8))
    (.ret (.cons (.n 0) (.cons (.n 6) (.cons (.var 2) .nil))))
    (.ret (.cons (.n (-1)) (.cons (.var 1) (.cons (.bin (.add .i64) (.var 2) (.n 1)) .nil)))))))
   (.ret (.cons (.n 1) (.cons (.var 1) (.cons (.var 2) .nil)))))
theorem le40_0 : (loopVT Try.prog (sgOf sg40) (ltOf lt40) L40_0 lb40_0).slim L40_0.nv [] = rt40_0 := by kernel_rfl
theorem lf40_0 : (firstRegion lb40_0).bind (ltOf lt40) = some L40_0 := by kernel_rfl
theorem lk40_0 : (Code.loops lb40_0).length = 0 := by kernel_rfl
def vt40 : VT :=
  (.need (.t true) (.c (.bin .le (.n 0) (.var 5)))
  (.need (.t true) (.c (.bin .lt (.var 5) (.un .len (.var 4))))
  (.need (.t true) (.pre 38 (.cons (.sel 0 (.var 4) (.var 5)) .nil))
  (.lt (.app 38 (.cons (.sel 0 (.var 4) (.var 5)) .nil) 0) 1
  (.ite (.un .not (.var 6))
   (.ret (.cons (.n 5) .nil))
   (.need (.t true) (.pre 14000 (.cons (.var 5) (.cons (.n 0) (.cons (.n 0) (.cons (.var 0) (.cons (.var 1) (.cons (.var 2) (.cons (.var 3) (.cons (.var 4) (.cons (.sel 0 (.var 4) (.var 5)) (.cons (.sel 1 (.var 4) (.var 5)) .nil)))))))))))
   (.lt (.app 14000 (.cons (.var 5) (.cons (.n 0) (.cons (.n 0) (.cons (.var 0) (.cons (.var 1) (.cons (.var 2) (.cons (.var 3) (.cons (.var 4) (.cons (.sel 0 (.var 4) (.var 5)) (.cons (.sel 1 (.var 4) (.var 5)) .nil)))))))))) 0) 3
   (.ite (.bin .eq (.var 7) (.n 0))
    (.ret (.cons (.var 8) .nil))
    (.need (.t true) (.pre 58 (.cons (.var 0) (.cons (.var 1) (.cons (.var 2) (.cons (.var 3) (.cons (.var 4) (.cons (.sel 0 (.var 4) (.var 5)) .nil)))))))
    (.lt (.app 58 (.cons (.var 0) (.cons (.var 1) (.cons (.var 2) (.cons (.var 3) (.cons (.var 4) (.cons (.sel 0 (.var 4) (.var 5)) .nil)))))) 0) 1
    (.ite (.bin .le (.n 0) (.var 10))
     (.ret (.cons (.n 6) .nil))
     (.ite (.ite (.bin .lt (.sel 1 (.var 4) (.var 5)) (.n (-1))) (.t true) (.bin .le (.var 5) (.sel 1 (.var 4) (.var 5))))
      (.ret (.cons (.n 3) .nil))
      (.need (.t true) (.pre 54 (.cons (.var 0) (.cons (.var 1) (.cons (.var 2) (.cons (.var 3) (.cons (.var 4) (.cons (.var 5) .nil)))))))
      (.lt (.app 54 (.cons (.var 0) (.cons (.var 1) (.cons (.var 2) (.cons (.var 3) (.cons (.var 4) (.cons (.var 5) .nil)))))) 0) 1
      (.ite (.bin .lt (.n 6) (.var 11))
       (.ret (.cons (.n 2) .nil))
       (.ret (.cons (.n 0) .nil)))))))))))))))))
theorem e40 : (fnVT Try.prog (sgOf sg40) (ltOf lt40) S40 Try.f40 c40).slim (S40.ps.map fun p => p.2.length).sum [] = vt40 := by kernel_rfl
def S41 : Sig := ⟨[(true, [.str, .bool, (.sl 58 [.str, .str, i6, i6, i6, (.sl 103 [.str, i6])]), (.sl 75 [i6, i6, i6, i6, .str, i6, i6]), (.sl 52 [.str, i6])]), (true, [i6, i6, i6, i6, .str, i6, i6])], [(false, [i6])], [], none⟩
noncomputable def c41 : Code := Try.f41.body.getD .skip
theorem b41 : Try.f41.body = some c41 := body_some (by kernel_rfl)
theorem n41 : (Try.f41.name == "runtime.NumGoroutine") = false := by kernel_rfl
def sg41 : List (FuncId × Sig) := [(59, S59)]
def lt41 : List (Nat × LoopSig) := []
theorem k41 : (Code.loops c41).length = 0 := by kernel_rfl
def vt41 : VT :=
  (.ite (.ite (.ite (.ite (.bin .lt (.var 5) (.n 0)) (.t true) (.bin .le (.un .len (.var 2)) (.var 5))) (.t true) (.bin .lt (.var 6) (.n 0))) (.t true) (.bin .le (.un .len (.var 2)) (.var 6)))
   (.ret (.cons (.n 3) .nil))
   (.need (.un .not (.bin .lt (.var 7) (.n (-1)))) (.c (.bin .le (.n 0) (.var 5)))
   (.need (.un .not (.bin .lt (.var 7) (.n (-1)))) (.c (.bin .lt (.var 5) (.un .len (.var 2))))
   (.need (.un .not (.ite (.ite (.bin .lt (.var 7) (.n (-1))) (.t true) (.bin .le (.un .len (.sel 5 (.var 2) (.var 5))) (.var 7))) (.t true) (.bin .lt (.var 8) (.n (-1))))) (.c (.bin .le (.n 0) (.var 6)))
   (.need (.un .not (.ite (.ite (.bin .lt (.var 7) (.n (-1))) (.t true) (.bin .le (.un .len (.sel 5 (.var 2) (.var 5))) (.var 7))) (.t true) (.bin .lt (.var 8) (.n (-1))))) (.c (.bin .lt (.var 6) (.un .len (.var 2))))
   (.ite (.ite (.ite (.ite (.bin .lt (.var 7) (.n (-1))) (.t true) (.bin .le (.un .len (.sel 5 (.var 2) (.var 5))) (.var 7))) (.t true) (.bin .lt (.var 8) (.n (-1)))) (.t true) (.bin .le (.un .len (.sel 5 (.var 2) (.var 6))) (.var 8)))
    (.ret (.cons (.n 3) .nil))
    (.ite (.bin .lt (.n 32) (.un .slen (.var 9)))
     (.ret (.cons (.n 2) .nil))
     (.need (.t true) (.pre 59 (.cons (.var 9) .nil))
     (.lt (.app 59 (.cons (.var 9) .nil) 0) 1
     (.ite (.ite (.ite (.ite (.ite (.un .not (.var 12)) (.t true) (.bin .lt (.var 10) (.n 1))) (.t true) (.bin .lt (.n 1000) (.var 10))) (.t true) (.bin .lt (.var 11) (.n 1))) (.t true) (.bin .lt (.n 64) (.var 11)))
      (.ret (.cons (.n 7) .nil))
      (.ret (.cons (.n 0) .nil))))))))))))
theorem e41 : (fnVT Try.prog (sgOf sg41) (ltOf lt41) S41 Try.f41 c41).slim (S41.ps.map fun p => p.2.length).sum [] = vt41 := by kernel_rfl
def S20 : Sig := ⟨[(true, [.str, .bool, (.sl 58 [.str, .str, i6, i6, i6, (.sl 103 [.str, i6])]), (.sl 75 [i6, i6, i6, i6, .str, i6, i6]), (.sl 52 [.str, i6])])], [(false, [i6])], [], none⟩
noncomputable def c20 : Code := Try.f20.body.getD .skip
theorem b20 : Try.f20.body = some c20 := body_some (by kernel_rfl)
theorem n20 : (Try.f20.name == "runtime.NumGoroutine") = false := by kernel_rfl
def sg20 : List (FuncId × Sig) := [(38, S38), (39, S39), (40, S40), (41, S41)]
def L20_0 : LoopSig := ⟨12000, [],
   ⟨[.any, (.c (.ptr 0 0)), (.c (.x i6 (.var 0))), (.c (.x i6 (.var 1))), .any, .any, .any, .any, .any, .any, .any, .any, .any, .any, .any, .any, .any, .any, .any, .any, .any, .any, .any, .any, .any, .any, .any, .any, .any, .any, .any, .any, .any, .any, .any, .any, .any, .any, .any, .any, .any, .any, .any, .any, .any, .any, .any, .any, .any, .any, .any, .any, .any, .any, .any, .any, .any, .any, .any, .any, .any, .any, .any, .any, .any, .any, .any, .any, .any, .any, .any, .any],
    [some ⟨(.t true), (.box 36 [(.x .str (.var 2)), (.x .bool (.var 3)), (.x (.sl 58 [.str, .str, i6, i6, i6, (.sl 103 [.str, i6])]) (.var 4)), (.x (.sl 75 [i6, i6, i6, i6, .str, i6, i6]) (.var 5)), (.x (.sl 52 [.str, i6]) (.var 6))] false)⟩]⟩,
   7, [0, 1], [29, 30, 31, 32, 33, 36, 37, 38, 4, 39, 40, 41, 2, 34, 35, 3], [.ret, (.exit 0)], []⟩
def L20_1 : LoopSig := ⟨12001, [],
   ⟨[.any, (.c (.ptr 0 0)), (.c (.x i6 (.var 0))), .any, .any, (.c (.x i6 (.var 1))), .any, .any, .any, .any, .any, .any, .any, .any, .any, .any, .any, .any, .any, .any, .any, .any, .any, .any, .any, .any, .any, .any, .any, .any, .any, .any, .any, .any, .any, .any, .any, .any, .any, .any, .any, .any, .any, .any, .any, .any, .any, .any, .any, .any, .any, .any, .any, .any, .any, .any, .any, .any, .any, .any, .any, .any, .any, .any, .any, .any, .any, .any, .any, .any, .any, .any],
    [some ⟨(.t true), (.box 36 [(.x .str (.var 2)), (.x .bool (.var 3)), (.x (.sl 58 [.str, .str, i6, i6, i6, (.sl 103 [.str, i6])]) (.var 4)), (.x (.sl 75 [i6, i6, i6, i6, .str, i6, i6]) (.var 5)), (.x (.sl 52 [.str, i6]) (.var 6))] false)⟩]⟩,
   7, [0, 1], [42, 43, 44, 45, 46, 49, 50, 51, 6, 52, 53, 54, 2, 47, 48, 5], [.ret, (.exit 2)], []⟩
def L20_2 : LoopSig := ⟨12002, [],
   ⟨[.any, (.c (.ptr 0 0)), (.c (.x i6 (.var 0))), .any, .any, .any, .any, (.c (.x i6 (.var 1))), .any, .any, .any, .any, .any, .any, .any, .any, .any, .any, .any, .any, .any, .any, .any, .any, .any, .any, .any, .any, .any, .any, .any, .any, .any, .any, .any, .any, .any, .any, .any, .any, .any, .any, .any, .any, .any, .any, .any, .any, .any, .any, .any, .any, .any, .any, .any, .any, .any, .any, .any, .any, .any, .any, .any, .any, .any, .any, .any, .any, .any, .any, .any, .any],
    [some ⟨(.t true), (.box 36 [(.x .str (.var 2)), (.x .bool (.var 3)), (.x (.sl 58 [.str, .str, i6, i6, i6, (.sl 103 [.str, i6])]) (.var 4)), (.x (.sl 75 [i6, i6, i6, i6, .str, i6, i6]) (.var 5)), (.x (.sl 52 [.str, i6]) (.var 6))] false)⟩]⟩,
   7, [0, 1], [55, 56, 57, 58, 59, 62, 63, 64, 65, 66, 67, 68, 8, 69, 70, 71, 2, 60, 61, 7], [.ret, (.exit 4)], []⟩
def lt20 : List (Nat × LoopSig) := [(6, L20_0), (12, L20_1), (18, L20_2)]
theorem k20 : (Code.loops c20).length = 3 := by kernel_rfl
noncomputable def lb20_0 : Code := (Code.loops c20).getD 0 .skip
noncomputable def lb20_1 : Code := (Code.loops c20).getD 1 .skip
noncomputable def lb20_2 : Code := (Code.loops c20).getD 2 .skip
def rt20_0 : VT :=
  (.ite (.bin .lt (.var 1) (.un .len (.var 4)))
   (.need (.t true) (.pre 39 (.cons (.var 2) (.cons (.var 3) (.cons (.var 4) (.cons (.var 5) (.cons (.var 6) (.cons (.var 1) .nil)))))))
   (.lt (.app 39 (.cons (.var 2) (.cons (.var 3) (.cons (.var 4) (.cons (.var 5) (.cons (.var 6) (.cons (.var 1) .nil)))))) 0) 1
   (.ite (.un .not (.bin .eq (.var 7) (.n 0)))
    (.ret (.cons (.n 0) (.cons (.var 7) (.cons (.var 1) .nil))))
    (.ret (.cons (.n (-1)) (.cons (.var 0) (.cons (.bin (.add .i64) (.var 1) (.n 1)) .nil)))))))
   (.ret (.cons (.n 1) (.cons (.var 0) (.cons (.var 1) .nil)))))
theorem le20_0 : (loopVT Try.prog (sgOf sg20) (ltOf lt20) L20_0 lb20_0).slim L20_0.nv [] = rt20_0 := by kernel_rfl
theorem lf20_0 : (firstRegion lb20_0).bind (ltOf lt20) = some L20_0 := by kernel_rfl
theorem lk20_0 : (Code.loops lb20_0).length = 0 := by kernel_rfl
def rt20_1 : VT :=
  (.ite (.bin .lt (.var 1) (.un .len (.var 6)))
   (.need (.t true) (.pre 40 (.cons (.var 2) (.cons (.var 3) (.cons (.var 4) (.cons (.var 5) (.cons (.var 6) (.cons (.var 1) .nil)))))))
   (.lt (.app 40 (.cons (.var 2) (.cons (.var 3) (.cons (.var 4) (.cons (.var 5) (.cons (.var 6) (.cons (.var 1) .nil)))))) 0) 1
   (.ite (.un .not (.bin .eq (.var 7) (.n 0)))
    (.ret (.cons (.n 0) (.cons (.var 7) (.cons (.var 1) .nil))))
    (.ret (.cons (.n (-1)) (.cons (.var 0) (.cons (.bin (.add .i64) (.var 1) (.n 1)) .nil)))))))
   (.ret (.cons (.n 1) (.cons (.var 0) (.cons (.var 1) .nil)))))
theorem le20_1 : (loopVT Try.prog (sgOf sg20) (ltOf lt20) L20_1 lb20_1).slim L20_1.nv [] = rt20_1 := by kernel_rfl
theorem lf20_1 : (firstRegion lb20_1).bind (ltOf lt20) = some L20_1 := by kernel_rfl
theorem lk20_1 : (Code.loops lb20_1).length = 0 := by kernel_rfl
def rt20_2 : VT :=
  (.ite (.bin .lt (.var 1) (.un .len (.var 5)))
   (.need (.t true) (.c (.bin .le (.n 0) (.var 1)))
   (.need (.t true) (.pre 41 (.cons (.var 2) (.cons (.var 3) (.cons (.var 4) (.cons (.var 5) (.cons (.var 6) (.cons (.sel 0 (.var 5) (.var 1)) (.cons (.sel 1 (.var 5) (.var 1)) (.cons (.sel 2 (.var 5) (.var 1)) (.cons (.sel 3 (.var 5) (.var 1)) (.cons (.sel 4 (.var 5) (.var 1)) (.cons (.sel 5 (.var 5) (.var 1)) (.cons (.sel 6 (.var 5) (.var 1)) .nil)))))))))))))
   (.lt (.app 41 (.cons (.var 2) (.cons (.var 3) (.cons (.var 4) (.cons (.var 5) (.cons (.var 6) (.cons (.sel 0 (.var 5) (.var 1)) (.cons (.sel 1 (.var 5) (.var 1)) (.cons (.sel 2 (.var 5) (.var 1)) (.cons (.sel 3 (.var 5) (.var 1)) (.cons (.sel 4 (.var 5) (.var 1)) (.cons (.sel 5 (.var 5) (.var 1)) (.cons (.sel 6 (.var 5) (.var 1)) .nil)))))))))))) 0) 1
   (.ite (.un .not (.bin .eq (.var 7) (.n 0)))
    (.ret (.cons (.n 0) (.cons (.var 7) (.cons (.var 1) .nil))))
    (.ret (.cons (.n (-1)) (.cons (.var 0) (.cons (.bin (.add .i64) (.var 1) (.n 1)) .nil))))))))
   (.ret (.cons (.n 1) (.cons (.var 0) (.cons (.var 1) .nil)))))
theorem le20_2 : (loopVT Try.prog (sgOf sg20) (ltOf lt20) L20_2 lb20_2).slim L20_2.nv [] = rt20_2 := by kernel_rfl
theorem lf20_2 : (firstRegion lb20_2).bind (ltOf lt20) = some L20_2 := by kernel_rfl
theorem lk20_2 : (Code.loops lb20_2).length = 0 := by kernel_rfl
def vt20 : VT :=
  (.ite (.ite (.ite (.bin .lt (.n 64) (.un .len (.var 2))) (.t true) (.bin .lt (.n 256) (.un .len (.var 3)))) (.t true) (.bin .lt (.n 16) (.un .len (.var 4))))
   (.ret (.cons (.n 2) .nil))
   (.need (.t true) (.pre 38 (.cons (.var 0) .nil))
   (.lt (.app 38 (.cons (.var 0) .nil) 0) 1
   (.ite (.un .not (.var 5))
    (.ret (.cons (.n 5) .nil))
    (.need (.t true) (.pre 12000 (.cons (.n 0) (.cons (.n 0) (.cons (.var 0) (.cons (.var 1) (.cons (.var 2) (.cons (.var 3) (.cons (.var 4) .nil))))))))
    (.lt (.app 12000 (.cons (.n 0) (.cons (.n 0) (.cons (.var 0) (.cons (.var 1) (.cons (.var 2) (.cons (.var 3) (.cons (.var 4) .nil))))))) 0) 3
    (.ite (.bin .eq (.var 6) (.n 0))
     (.ret (.cons (.var 7) .nil))
     (.need (.t true) (.pre 12001 (.cons (.var 7) (.cons (.n 0) (.cons (.var 0) (.cons (.var 1) (.cons (.var 2) (.cons (.var 3) (.cons (.var 4) .nil))))))))
     (.lt (.app 12001 (.cons (.var 7) (.cons (.n 0) (.cons (.var 0) (.cons (.var 1) (.cons (.var 2) (.cons (.var 3) (.cons (.var 4) .nil))))))) 0) 3
     (.ite (.bin .eq (.var 9) (.n 0))
      (.ret (.cons (.var 10) .nil))
      (.need (.t true) (.pre 12002 (.cons (.var 10) (.cons (.n 0) (.cons (.var 0) (.cons (.var 1) (.cons (.var 2) (.cons (.var 3) (.cons (.var 4) .nil))))))))
      (.lt (.app 12002 (.cons (.var 10) (.cons (.n 0) (.cons (.var 0) (.cons (.var 1) (.cons (.var 2) (.cons (.var 3) (.cons (.var 4) .nil))))))) 0) 3
      (.ite (.bin .eq (.var 12) (.n 0))
       (.ret (.cons (.var 13) .nil))
       (.ret (.cons (.n 0) .nil)))))))))))))))
theorem e20 : (fnVT Try.prog (sgOf sg20) (ltOf lt20) S20 Try.f20 c20).slim (S20.ps.map fun p => p.2.length).sum [] = vt20 := by kernel_rfl
def S16 : Sig := ⟨[(true, [.str, .bool, (.sl 58 [.str, .str, i6, i6, i6, (.sl 103 [.str, i6])]), (.sl 75 [i6, i6, i6, i6, .str, i6, i6]), (.sl 52 [.str, i6])]), (true, [(.sl 23 [i6, i6, i6, i6]), (.sl 23 [i6, i6, i6, i6]), (.sl 48 [(.sl 60 [i6, i6])]), (.sl 23 [i6, i6, i6, i6]), i6, i6, i6, i6, i6, i6, (.sl 3 [i6])])], [(true, [i6, i6, i6, i6, (.sl 50 [i6, i6, i6, i6, i6, i6, (.sl 60 [i6, i6]), .str])]), (false, [i6])], [], none⟩
def S17 : Sig := ⟨[(true, [i6, i6, i6, i6, (.sl 50 [i6, i6, i6, i6, i6, i6, (.sl 60 [i6, i6]), .str])]), (true, [i6, i6, i6, i6, (.sl 50 [i6, i6, i6, i6, i6, i6, (.sl 60 [i6, i6]), .str])])], [(false, [.bool])], [], none⟩
def S4 : Sig := ⟨[(true, [.str, .bool, (.sl 58 [.str, .str, i6, i6, i6, (.sl 103 [.str, i6])]), (.sl 75 [i6, i6, i6, i6, .str, i6, i6]), (.sl 52 [.str, i6])]), (true, [(.sl 23 [i6, i6, i6, i6]), (.sl 23 [i6, i6, i6, i6]), (.sl 48 [(.sl 60 [i6, i6])]), (.sl 23 [i6, i6, i6, i6]), i6, i6, i6, i6, i6, i6, (.sl 3 [i6])])], [(false, [.bool])], [], none⟩
noncomputable def c4 : Code := Try.f4.body.getD .skip
theorem b4 : Try.f4.body = some c4 := body_some (by kernel_rfl)
def sg4 : List (FuncId × Sig) := [(10, S10), (15, S15), (16, S16), (17, S17)]
def lt4 : List (Nat × LoopSig) := []
theorem k4 : (Code.loops c4).length = 0 := by kernel_rfl
def vt4 : VT :=
  (.ite (.ite (.ite (.ite (.bin .lt (.n 70) (.un .len (.var 2))) (.t true) (.bin .lt (.n 60) (.un .len (.var 3)))) (.t true) (.bin .lt (.n 20) (.un .len (.var 4)))) (.t true) (.bin .lt (.n 60) (.un .len (.var 7))))
   (.need (.t true) (.pre 10 .nil)
   (.lt (.app 10 .nil 0) 1
   (.ret (.cons (.var 16) .nil))))
   (.need (.t true) (.pre 15 (.cons (.var 0) (.cons (.var 1) (.cons (.var 2) (.cons (.var 3) (.cons (.var 4) (.cons (.var 5) (.cons (.var 6) (.cons (.var 7) (.cons (.var 8) (.cons (.var 9) (.cons (.var 10) (.cons (.var 11) (.cons (.var 12) (.cons (.var 13) (.cons (.var 14) (.cons (.var 15) .nil)))))))))))))))))
   (.lt (.app 15 (.cons (.var 0) (.cons (.var 1) (.cons (.var 2) (.cons (.var 3) (.cons (.var 4) (.cons (.var 5) (.cons (.var 6) (.cons (.var 7) (.cons (.var 8) (.cons (.var 9) (.cons (.var 10) (.cons (.var 11) (.cons (.var 12) (.cons (.var 13) (.cons (.var 14) (.cons (.var 15) .nil)))))))))))))))) 0) 6
   (.need (.t true) (.pre 16 (.cons (.var 0) (.cons (.var 1) (.cons (.var 2) (.cons (.var 3) (.cons (.var 4) (.cons (.var 5) (.cons (.var 6) (.cons (.var 7) (.cons (.var 8) (.cons (.var 9) (.cons (.var 10) (.cons (.var 11) (.cons (.var 12) (.cons (.var 13) (.cons (.var 14) (.cons (.var 15) .nil)))))))))))))))))
   (.lt (.app 16 (.cons (.var 0) (.cons (.var 1) (.cons (.var 2) (.cons (.var 3) (.cons (.var 4) (.cons (.var 5) (.cons (.var 6) (.cons (.var 7) (.cons (.var 8) (.cons (.var 9) (.cons (.var 10) (.cons (.var 11) (.cons (.var 12) (.cons (.var 13) (.cons (.var 14) (.cons (.var 15) .nil)))))))))))))))) 0) 6
   (.need (.bin .eq (.var 21) (.var 27)) (.pre 17 (.cons (.var 16) (.cons (.var 17) (.cons (.var 18) (.cons (.var 19) (.cons (.var 20) (.cons (.var 22) (.cons (.var 23) (.cons (.var 24) (.cons (.var 25) (.cons (.var 26) .nil)))))))))))
   (.lt (.app 17 (.cons (.var 16) (.cons (.var 17) (.cons (.var 18) (.cons (.var 19) (.cons (.var 20) (.cons (.var 22) (.cons (.var 23) (.cons (.var 24) (.cons (.var 25) (.cons (.var 26) .nil)))))))))) 0) 1
   (.need (.ite (.bin .eq (.var 21) (.var 27)) (.var 28) (.t false)) (.pre 10 .nil)
   (.lt (.app 10 .nil 0) 1
   (.ret (.cons (.ite (.ite (.bin .eq (.var 21) (.var 27)) (.var 28) (.t false)) (.var 29) (.t false)) .nil)))))))))))
theorem e4 : (fnVT Try.prog (sgOf sg4) (ltOf lt4) S4 Try.f4 c4).slim (S4.ps.map fun p => p.2.length).sum [] = vt4 := by kernel_rfl
def vt37 : VT :=
  (.ret (.cons (.bin (.add .i64) (.var 0) (.var 4)) (.cons (.bin (.add .i64) (.var 1) (.var 5)) (.cons (.bin (.add .i64) (.var 2) (.var 4)) (.cons (.bin (.add .i64) (.var 3) (.var 5)) .nil)))))
def T37 : FuncId → List D → List D := tabOf []
def fn37 (ρ : List D) : List D := vt37.val T37 ρ
def S19 : Sig := ⟨[(true, [i6, i6, i6, i6, (.sl 50 [i6, i6, i6, i6, i6, i6, (.sl 60 [i6, i6]), .str])]), (false, [i6]), (false, [i6])], [(true, [i6, i6, i6, i6, (.sl 50 [i6, i6, i6, i6, i6, i6, (.sl 60 [i6, i6]), .str])]), (false, [i6])], [], none⟩
def S5 : Sig := ⟨[(true, [i6, i6, i6, i6, (.sl 50 [i6, i6, i6, i6, i6, i6, (.sl 60 [i6, i6]), .str])]), (false, [i6]), (false, [i6])], [(false, [.bool])], [], none⟩
noncomputable def c5 : Code := Try.f5.body.getD .skip
def sg5 : List (FuncId × Sig) := [(9, S9), (10, S10), (18, S18), (19, S19), (17, S17)]
def lt5 : List (Nat × LoopSig) := []
def vt5 : VT :=
  (.need (.t true) (.pre 9 (.cons (.var 0) (.cons (.var 1) (.cons (.var 2) (.cons (.var 3) (.cons (.var 4) .nil))))))
  (.lt (.app 9 (.cons (.var 0) (.cons (.var 1) (.cons (.var 2) (.cons (.var 3) (.cons (.var 4) .nil))))) 0) 1
  (.ite (.un .not (.var 7))
   (.need (.t true) (.pre 10 .nil)
   (.lt (.app 10 .nil 0) 1
   (.ret (.cons (.var 8) .nil))))
   (.need (.t true) (.pre 18 (.cons (.var 0) (.cons (.var 1) (.cons (.var 2) (.cons (.var 3) (.cons (.var 4) (.cons (.var 5) (.cons (.var 6) .nil))))))))
   (.lt (.app 18 (.cons (.var 0) (.cons (.var 1) (.cons (.var 2) (.cons (.var 3) (.cons (.var 4) (.cons (.var 5) (.cons (.var 6) .nil))))))) 0) 6
   (.need (.t true) (.pre 19 (.cons (.var 0) (.cons (.var 1) (.cons (.var 2) (.cons (.var 3) (.cons (.var 4) (.cons (.var 5) (.cons (.var 6) .nil))))))))
   (.lt (.app 19 (.cons (.var 0) (.cons (.var 1) (.cons (.var 2) (.cons (.var 3) (.cons (.var 4) (.cons (.var 5) (.cons (.var 6) .nil))))))) 0) 6
   (.need (.bin .eq (.var 13) (.var 19)) (.pre 17 (.cons (.var 8) (.cons (.var 9) (.cons (.var 10) (.cons (.var 11) (.cons (.var 12) (.cons (.var 14) (.cons (.var 15) (.cons (.var 16) (.cons (.var 17) (.cons (.var 18) .nil)))))))))))
   (.lt (.app 17 (.cons (.var 8) (.cons (.var 9) (.cons (.var 10) (.cons (.var 11) (.cons (.var 12) (.cons (.var 14) (.cons (.var 15) (.cons (.var 16) (.cons (.var 17) (.cons (.var 18) .nil)))))))))) 0) 1
   (.need (.ite (.bin .eq (.var 13) (.var 19)) (.var 20) (.t false)) (.pre 10 .nil)
   (.lt (.app 10 .nil 0) 1
   (.ret (.cons (.ite (.ite (.bin .eq (.var 13) (.var 19)) (.var 20) (.t false)) (.var 21) (.t false)) .nil)))))))))))))
theorem e5 : (fnVT Try.prog (sgOf sg5) (ltOf lt5) S5 Try.f5 c5).slim (S5.ps.map fun p => p.2.length).sum [] = vt5 := by kernel_rfl
def S6 : Sig := ⟨[(true, [.str, .bool, (.sl 58 [.str, .str, i6, i6, i6, (.sl 103 [.str, i6])]), (.sl 75 [i6, i6, i6, i6, .str, i6, i6]), (.sl 52 [.str, i6])]), (true, [(.sl 23 [i6, i6, i6, i6]), (.sl 23 [i6, i6, i6, i6]), (.sl 48 [(.sl 60 [i6, i6])]), (.sl 23 [i6, i6, i6, i6]), i6, i6, i6, i6, i6, i6, (.sl 3 [i6])])], [(false, [.bool])], [], none⟩
noncomputable def c6 : Code := Try.f6.body.getD .skip
theorem b6 : Try.f6.body = some c6 := body_some (by kernel_rfl)
theorem n6 : (Try.f6.name == "runtime.NumGoroutine") = false := by kernel_rfl
def sg6 : List (FuncId × Sig) := [(10, S10), (15, S15), (11, S11), (20, S20)]
def L6_0 : LoopSig := ⟨10600, [],
   ⟨[.any, .any, (.c (.ptr 0 0)), .any, (.c (.x .bool (.var 0))), (.c (.ptr 2 0)), .any, (.c (.row 3 1)), (.c (.x i6 (.var 1))), .any, .any, .any, .any, .any, .any, .any, .any, .any, .any, .any, .any, .any, .any, .any, .any, .any, .any, .any, .any, .any, .any, .any, .any, .any, .any, .any, .any, .any, .any, .any, .any, .any, .any, .any, .any, .any, .any, .any, .any, .any, .any, .any, .any, .any, .any, .any, .any, .any, .any, .any, .any, .any, .any, .any, .any, .any, .any, .any, .any, .any, .any, .any, .any, .any, .any, .any, .any, .any, .any, .any, .any, .any, .any, .any, .any, .any, .any, .any, .any, .any, .any, .any, .any, .any, .any, .any, .any, .any, .any, .any, .any, .any, .any, .any, .any, .any, .any, .any, .any, .any, .any, .any, .any, .any, .any, .any, .any, .any, .any, .any, .any, .any, .any, .any, .any, .any, .any, .any, .any, .any, .any, .any, .any, .any, .any, .any, .any, .any, .any, .any, .any, .any, .any],
    [some ⟨(.t true), (.box 36 [(.x .str (.var 2)), (.x .bool (.var 3)), (.x (.sl 58 [.str, .str, i6, i6, i6, (.sl 103 [.str, i6])]) (.var 4)), (.x (.sl 75 [i6, i6, i6, i6, .str, i6, i6]) (.var 5)), (.x (.sl 52 [.str, i6]) (.var 6))] false)⟩, none, some ⟨(.t true), (.box 26 [(.x i6 (.var 7)), (.x i6 (.var 8)), (.x i6 (.var 9)), (.x i6 (.var 10)), (.x (.sl 50 [i6, i6, i6, i6, i6, i6, (.sl 60 [i6, i6]), .str]) (.var 11))] false)⟩, some ⟨(.t true), (.row 3 [i6] (.var 12) 1 false)⟩]⟩,
   13, [0, 1, 12], [68, 69, 70, 71, 72, 75, 76, 77, 78, 79, 9, 80, 81, 82, 83, 84, 85, 86, 87, 88, 4, 89, 90, 91, 92, 93, 94, 95, 96, 97, 98, 99, 100, 101, 102, 103, 104, 105, 106, 107, 108, 109, 110, 73, 74, 8], [.ret, (.exit 0)], []⟩
def L6_1 : LoopSig := ⟨10601, [],
   ⟨[.any, .any, (.c (.ptr 0 0)), .any, (.c (.x .bool (.var 0))), .any, .any, (.c (.row 3 1)), .any, .any, (.c (.x i6 (.var 1))), .any, .any, .any, .any, .any, .any, .any, .any, .any, .any, .any, .any, .any, .any, .any, .any, .any, .any, .any, .any, .any, .any, .any, .any, .any, .any, .any, .any, .any, .any, .any, .any, .any, .any, .any, .any, .any, .any, .any, .any, .any, .any, .any, .any, .any, .any, .any, .any, .any, .any, .any, .any, .any, .any, .any, .any, .any, .any, .any, .any, .any, .any, .any, .any, .any, .any, .any, .any, .any, .any, .any, .any, .any, .any, .any, .any, .any, .any, .any, .any, .any, .any, .any, .any, .any, .any, .any, .any, .any, .any, .any, .any, .any, .any, .any, .any, .any, .any, .any, .any, .any, .any, .any, .any, .any, .any, .any, .any, .any, .any, .any, .any, .any, .any, .any, .any, .any, .any, .any, .any, .any, .any, .any, .any, .any, .any, .any, .any, .any, .any, .any, .any],
    [some ⟨(.t true), (.box 36 [(.x .str (.var 2)), (.x .bool (.var 3)), (.x (.sl 58 [.str, .str, i6, i6, i6, (.sl 103 [.str, i6])]) (.var 4)), (.x (.sl 75 [i6, i6, i6, i6, .str, i6, i6]) (.var 5)), (.x (.sl 52 [.str, i6]) (.var 6))] false)⟩, none, none, some ⟨(.t true), (.row 3 [i6] (.var 7) 1 false)⟩]⟩,
   8, [0, 1], [111, 112, 113, 114, 115, 118, 119, 120, 121, 122, 123, 11, 124, 125, 126, 127, 128, 129, 130, 131, 132, 133, 134, 135, 136, 4, 116, 117, 10], [.ret, (.exit 2)], []⟩
def lt6 : List (Nat × LoopSig) := [(10, L6_0), (20, L6_1)]
theorem k6 : (Code.loops c6).length = 2 := by kernel_rfl
noncomputable def lb6_0 : Code := (Code.loops c6).getD 0 .skip
noncomputable def lb6_1 : Code := (Code.loops c6).getD 1 .skip
def rt6_0 : VT :=
  (.ite (.bin .lt (.var 1) (.un .len (.var 11)))
   (.need (.t true) (.c (.bin .le (.n 0) (.var 1)))
   (.ite (.un .not (.bin .beq (.bin .eq (.sel 0 (.var 11) (.var 1)) (.n 1)) (.bin .lt (.var 1) (.un .len (.var 6)))))
    (.ret (.cons (.n 0) (.cons (.t false) (.cons (.var 1) (.cons (.var 12) .nil)))))
    (.ite (.bin .eq (.sel 0 (.var 11) (.var 1)) (.n 1))
     (.need (.un .not (.bin .le (.un .len (.var 12)) (.sel 1 (.var 11) (.var 1)))) (.c (.bin .le (.n 0) (.sel 1 (.var 11) (.var 1))))
     (.need (.un .not (.bin .le (.un .len (.var 12)) (.sel 1 (.var 11) (.var 1)))) (.c (.bin .lt (.sel 1 (.var 11) (.var 1)) (.un .len (.var 12))))
     (.ite (.ite (.bin .le (.un .len (.var 12)) (.sel 1 (.var 11) (.var 1))) (.t true) (.un .not (.bin .eq (.sel 0 (.var 12) (.sel 1 (.var 11) (.var 1))) (.n 0))))
      (.ret (.cons (.n 0) (.cons (.t false) (.cons (.var 1) (.cons (.var 12) .nil)))))
      (.need (.t true) (.c (.bin .le (.n 0) (.sel 1 (.var 11) (.var 1))))
      (.need (.t true) (.c (.bin .lt (.sel 1 (.var 11) (.var 1)) (.un .len (.var 12))))
      (.ret (.cons (.n (-1)) (.cons (.var 0) (.cons (.bin (.add .i64) (.var 1) (.n 1)) (.cons (.upd 0 (.var 12) (.sel 1 (.var 11) (.var 1)) (.cons (.bin (.add .i64) (.var 1) (.n 1)) .nil)) .nil))))))))))
     (.ret (.cons (.n (-1)) (.cons (.var 0) (.cons (.bin (.add .i64) (.var 1) (.n 1)) (.cons (.var 12) .nil))))))))
   (.ret (.cons (.n 1) (.cons (.var 0) (.cons (.var 1) (.cons (.var 12) .nil))))))
theorem le6_0 : (loopVT Try.prog (sgOf sg6) (ltOf lt6) L6_0 lb6_0).slim L6_0.nv [] = rt6_0 := by kernel_rfl
theorem lf6_0 : (firstRegion lb6_0).bind (ltOf lt6) = some L6_0 := by kernel_rfl
theorem lk6_0 : (Code.loops lb6_0).length = 0 := by kernel_rfl
def rt6_1 : VT :=
  (.ite (.bin .lt (.var 1) (.un .len (.var 6)))
   (.need (.t true) (.c (.bin .le (.n 0) (.var 1)))
   (.need (.bin .le (.n 0) (.sel 1 (.var 6) (.var 1))) (.c (.bin .le (.n 0) (.sel 1 (.var 6) (.var 1))))
   (.need (.bin .le (.n 0) (.sel 1 (.var 6) (.var 1))) (.c (.bin .lt (.sel 1 (.var 6) (.var 1)) (.un .len (.var 7))))
   (.need (.bin .le (.n 0) (.sel 1 (.var 6) (.var 1))) (.c (.bin .lt (.var 1) (.un .len (.var 7))))
   (.ite (.ite (.bin .le (.n 0) (.sel 1 (.var 6) (.var 1))) (.bin .le (.sel 0 (.var 7) (.var 1)) (.sel 0 (.var 7) (.sel 1 (.var 6) (.var 1)))) (.t false))
    (.ret (.cons (.n 0) (.cons (.t false) (.cons (.var 1) .nil))))
    (.ret (.cons (.n (-1)) (.cons (.var 0) (.cons (.bin (.add .i64) (.var 1) (.n 1)) .nil)))))))))
   (.ret (.cons (.n 1) (.cons (.var 0) (.cons (.var 1) .nil)))))
theorem le6_1 : (loopVT Try.prog (sgOf sg6) (ltOf lt6) L6_1 lb6_1).slim L6_1.nv [] = rt6_1 := by kernel_rfl
theorem lf6_1 : (firstRegion lb6_1).bind (ltOf lt6) = some L6_1 := by kernel_rfl
theorem lk6_1 : (Code.loops lb6_1).length = 0 := by kernel_rfl
def vt6 : VT :=
  (.ite (.ite (.ite (.ite (.bin .lt (.n 70) (.un .len (.var 2))) (.t true) (.bin .lt (.n 60) (.un .len (.var 3)))) (.t true) (.bin .lt (.n 20) (.un .len (.var 4)))) (.t true) (.bin .lt (.n 60) (.un .len (.var 7))))
   (.need (.t true) (.pre 10 .nil)
   (.lt (.app 10 .nil 0) 1
   (.ret (.cons (.var 16) .nil))))
   (.need (.t true) (.pre 15 (.cons (.var 0) (.cons (.var 1) (.cons (.var 2) (.cons (.var 3) (.cons (.var 4) (.cons (.var 5) (.cons (.var 6) (.cons (.var 7) (.cons (.var 8) (.cons (.var 9) (.cons (.var 10) (.cons (.var 11) (.cons (.var 12) (.cons (.var 13) (.cons (.var 14) (.cons (.var 15) .nil)))))))))))))))))
   (.lt (.app 15 (.cons (.var 0) (.cons (.var 1) (.cons (.var 2) (.cons (.var 3) (.cons (.var 4) (.cons (.var 5) (.cons (.var 6) (.cons (.var 7) (.cons (.var 8) (.cons (.var 9) (.cons (.var 10) (.cons (.var 11) (.cons (.var 12) (.cons (.var 13) (.cons (.var 14) (.cons (.var 15) .nil)))))))))))))))) 0) 6
   (.ite (.un .not (.bin .eq (.var 21) (.n 0)))
    (.need (.t true) (.pre 10 .nil)
    (.lt (.app 10 .nil 0) 1
    (.ret (.cons (.var 22) .nil))))
    (.need (.t true) (.pre 11 (.cons (.var 16) (.cons (.var 17) (.cons (.var 18) (.cons (.var 19) (.cons (.var 20) .nil))))))
    (.lt (.app 11 (.cons (.var 16) (.cons (.var 17) (.cons (.var 18) (.cons (.var 19) (.cons (.var 20) .nil))))) 0) 1
    (.ite (.ite (.un .not (.bin .eq (.var 22) (.n 0))) (.t true) (.bin .lt (.un .len (.var 20)) (.bin (.add .i64) (.bin (.add .i64) (.un .len (.var 2)) (.un .len (.var 3))) (.un .len (.var 4)))))
     (.ret (.cons (.t false) .nil))
     (.need (.t true) (.c (.bin .le (.un .len (.var 4)) (.n 17592186044416)))
     (.need (.t true) (.pre 10600 (.cons (.t false) (.cons (.n 0) (.cons (.var 0) (.cons (.var 1) (.cons (.var 2) (.cons (.var 3) (.cons (.var 4) (.cons (.var 16) (.cons (.var 17) (.cons (.var 18) (.cons (.var 19) (.cons (.var 20) (.cons (.rep (.un .len (.var 4)) (.cons (.n 0) .nil)) .nil))))))))))))))
     (.lt (.app 10600 (.cons (.t false) (.cons (.n 0) (.cons (.var 0) (.cons (.var 1) (.cons (.var 2) (.cons (.var 3) (.cons (.var 4) (.cons (.var 16) (.cons (.var 17) (.cons (.var 18) (.cons (.var 19) (.cons (.var 20) (.cons (.rep (.un .len (.var 4)) (.cons (.n 0) .nil)) .nil))))))))))))) 0) 4
     (.ite (.bin .eq (.var 23) (.n 0))
      (.ret (.cons (.var 24) .nil))
      (.need (.t true) (.pre 10601 (.cons (.var 24) (.cons (.n 0) (.cons (.var 0) (.cons (.var 1) (.cons (.var 2) (.cons (.var 3) (.cons (.var 4) (.cons (.var 26) .nil)))))))))
      (.lt (.app 10601 (.cons (.var 24) (.cons (.n 0) (.cons (.var 0) (.cons (.var 1) (.cons (.var 2) (.cons (.var 3) (.cons (.var 4) (.cons (.var 26) .nil)))))))) 0) 3
      (.ite (.bin .eq (.var 27) (.n 0))
       (.ret (.cons (.var 28) .nil))
       (.need (.t true) (.pre 20 (.cons (.var 0) (.cons (.var 1) (.cons (.var 2) (.cons (.var 3) (.cons (.var 4) .nil))))))
       (.lt (.app 20 (.cons (.var 0) (.cons (.var 1) (.cons (.var 2) (.cons (.var 3) (.cons (.var 4) .nil))))) 0) 1
       (.need (.bin .eq (.var 30) (.n 0)) (.pre 10 .nil)
       (.lt (.app 10 .nil 0) 1
       (.ret (.cons (.ite (.bin .eq (.var 30) (.n 0)) (.var 31) (.t false)) .nil))))))))))))))))))))
theorem e6 : (fnVT Try.prog (sgOf sg6) (ltOf lt6) S6 Try.f6 c6).slim (S6.ps.map fun p => p.2.length).sum [] = vt6 := by kernel_rfl
def S21 : Sig := ⟨[(true, [i6, i6, i6, i6, (.sl 50 [i6, i6, i6, i6, i6, i6, (.sl 60 [i6, i6]), .str])]), (true, [i6, i6, i6, i6, (.sl 50 [i6, i6, i6, i6, i6, i6, (.sl 60 [i6, i6]), .str])])], [(false, [.bool])], [], none⟩
noncomputable def c7 : Code := Try.f7.body.getD .skip
def S8 : Sig := ⟨[(true, [i6, i6, i6, i6, (.sl 50 [i6, i6, i6, i6, i6, i6, (.sl 60 [i6, i6]), .str])]), (true, [i6, i6, i6, i6])], [(false, [.bool])], [], none⟩
noncomputable def c8 : Code := Try.f8.body.getD .skip
def sg8 : List (FuncId × Sig) := [(9, S9), (10, S10), (13, S13), (18, S18), (21, S21), (11, S11)]
def L8_0 : LoopSig := ⟨10800, [],
   ⟨[.any, .any, .any, (.c (.ptr 1 0)), (.c (.x .bool (.var 0))), (.c (.x i6 (.var 1))), .any, .any, .any, .any, .any, .any, .any, .any, .any, .any, .any, .any, .any, .any, .any, .any, .any, .any, .any, .any, .any, .any, .any, .any, .any, .any, .any, .any, .any, .any, .any, .any, .any, .any, .any, .any, .any, .any, .any, .any, .any, .any, .any, .any, .any, .any, .any, .any, .any, .any, .any, .any, .any, .any, .any, .any, .any, .any, .any, .any, .any, .any, .any, .any, .any, .any, .any, .any, .any, .any, .any, .any, .any, .any, .any, .any, .any, .any, .any, .any, .any, .any, .any, .any, .any, .any, .any, .any, .any, .any, .any, .any, .any, .any, .any, .any, .any, .any, .any, .any, .any, .any, .any, .any, .any, .any, .any, .any, .any, .any, .any, .any, .any, .any, .any, .any, .any, .any, .any, .any, .any, .any, .any, .any],
    [none, some ⟨(.t true), (.box 54 [(.x i6 (.var 2)), (.x i6 (.var 3)), (.x i6 (.var 4)), (.x i6 (.var 5))] false)⟩]⟩,
   6, [0, 1], [20, 21, 24, 25, 26, 27, 28, 29, 30, 31, 32, 33, 34, 4, 22, 23, 5], [.ret, (.exit 0)], []⟩
def L8_1 : LoopSig := ⟨10801, [],
   ⟨[.any, .any, (.c (.ptr 0 0)), .any, .any, .any, (.c (.row 2 1)), (.c (.x i6 (.var 0))), .any, .any, .any, .any, .any, .any, .any, .any, .any, .any, .any, .any, .any, .any, .any, .any, .any, .any, .any, .any, .any, .any, .any, .any, .any, .any, .any, .any, .any, .any, .any, .any, .any, .any, .any, .any, .any, .any, .any, .any, .any, .any, .any, .any, .any, .any, .any, .any, .any, .any, .any, .any, .any, .any, .any, .any, .any, .any, .any, .any, .any, .any, .any, .any, .any, .any, .any, .any, .any, .any, .any, .any, .any, .any, .any, .any, .any, .any, .any, .any, .any, .any, .any, .any, .any, .any, .any, .any, .any, .any, .any, .any, .any, .any, .any, .any, .any, .any, .any, .any, .any, .any, .any, .any, .any, .any, .any, .any, .any, .any, .any, .any, .any, .any, .any, .any, .any, .any, .any, .any, .any, .any],
    [some ⟨(.t true), (.box 26 [(.x i6 (.var 1)), (.x i6 (.var 2)), (.x i6 (.var 3)), (.x i6 (.var 4)), (.x (.sl 50 [i6, i6, i6, i6, i6, i6, (.sl 60 [i6, i6]), .str]) (.var 5))] false)⟩, none, some ⟨(.t true), (.row 50 [i6, i6, i6, i6, i6, i6, (.sl 60 [i6, i6]), .str] (.var 6) 1 false)⟩]⟩,
   7, [0, 6], [40, 41, 44, 45, 46, 47, 48, 49, 50, 51, 6, 42, 43, 7], [(.exit 2)], [6]⟩
def lt8 : List (Nat × LoopSig) := [(4, L8_0), (10, L8_1)]
def vt8 : VT :=
  (.need (.t true) (.pre 9 (.cons (.var 0) (.cons (.var 1) (.cons (.var 2) (.cons (.var 3) (.cons (.var 4) .nil))))))
  (.lt (.app 9 (.cons (.var 0) (.cons (.var 1) (.cons (.var 2) (.cons (.var 3) (.cons (.var 4) .nil))))) 0) 1
  (.ite (.un .not (.var 9))
   (.need (.t true) (.pre 10 .nil)
   (.lt (.app 10 .nil 0) 1
   (.ret (.cons (.var 10) .nil))))
   (.need (.t true) (.pre 10800 (.cons (.t false) (.cons (.n 0) (.cons (.var 5) (.cons (.var 6) (.cons (.var 7) (.cons (.var 8) .nil)))))))
   (.lt (.app 10800 (.cons (.t false) (.cons (.n 0) (.cons (.var 5) (.cons (.var 6) (.cons (.var 7) (.cons (.var 8) .nil)))))) 0) 3
   (.ite (.bin .eq (.var 10) (.n 0))
    (.ret (.cons (.var 11) .nil))
    (.need (.t true) (.pre 10801 (.cons (.bin (.sub .i64) (.un .len (.var 4)) (.n 1)) (.cons (.var 0) (.cons (.var 1) (.cons (.var 2) (.cons (.var 3) (.cons (.var 4) (.cons .lnil .nil))))))))
    (.lt (.app 10801 (.cons (.bin (.sub .i64) (.un .len (.var 4)) (.n 1)) (.cons (.var 0) (.cons (.var 1) (.cons (.var 2) (.cons (.var 3) (.cons (.var 4) (.cons .lnil .nil))))))) 0) 3
    (.need (.t true) (.pre 13 (.cons (.var 15) .nil))
    (.lt (.app 13 (.cons (.var 15) .nil) 0) 4
    (.need (.t true) (.pre 13 (.cons (.var 4) .nil))
    (.lt (.app 13 (.cons (.var 4) .nil) 0) 4
    (.ite (.un .not (.ite (.bin .eq (.var 16) (.var 20)) (.ite (.bin .eq (.var 17) (.var 21)) (.ite (.bin .eq (.var 18) (.var 22)) (.bin .eq (.var 19) (.var 23)) (.t false)) (.t false)) (.t false)))
     (.ret (.cons (.t false) .nil))
     (.need (.t true) (.pre 18 (.cons (.var 0) (.cons (.var 1) (.cons (.var 2) (.cons (.var 3) (.cons (.var 4) (.cons (.var 5) (.cons (.var 6) .nil))))))))
     (.lt (.app 18 (.cons (.var 0) (.cons (.var 1) (.cons (.var 2) (.cons (.var 3) (.cons (.var 4) (.cons (.var 5) (.cons (.var 6) .nil))))))) 0) 6
     (.ite (.un .not (.bin .eq (.var 29) (.n 0)))
      (.need (.t true) (.pre 10 .nil)
      (.lt (.app 10 .nil 0) 1
      (.ret (.cons (.var 30) .nil))))
      (.need (.t true) (.pre 18 (.cons (.var 24) (.cons (.var 25) (.cons (.var 26) (.cons (.var 27) (.cons (.var 28) (.cons (.un (.neg .i64) (.var 5)) (.cons (.un (.neg .i64) (.var 6)) .nil))))))))
      (.lt (.app 18 (.cons (.var 24) (.cons (.var 25) (.cons (.var 26) (.cons (.var 27) (.cons (.var 28) (.cons (.un (.neg .i64) (.var 5)) (.cons (.un (.neg .i64) (.var 6)) .nil))))))) 0) 6
      (.need (.t true) (.pre 18 (.cons (.var 24) (.cons (.var 25) (.cons (.var 26) (.cons (.var 27) (.cons (.var 28) (.cons (.var 7) (.cons (.var 8) .nil))))))))
      (.lt (.app 18 (.cons (.var 24) (.cons (.var 25) (.cons (.var 26) (.cons (.var 27) (.cons (.var 28) (.cons (.var 7) (.cons (.var 8) .nil))))))) 0) 6
      (.need (.t true) (.pre 18 (.cons (.var 0) (.cons (.var 1) (.cons (.var 2) (.cons (.var 3) (.cons (.var 4) (.cons (.bin (.add .i64) (.var 5) (.var 7)) (.cons (.bin (.add .i64) (.var 6) (.var 8)) .nil))))))))
      (.lt (.app 18 (.cons (.var 0) (.cons (.var 1) (.cons (.var 2) (.cons (.var 3) (.cons (.var 4) (.cons (.bin (.add .i64) (.var 5) (.var 7)) (.cons (.bin (.add .i64) (.var 6) (.var 8)) .nil))))))) 0) 6
      (.need (.bin .eq (.var 35) (.n 0)) (.pre 21 (.cons (.var 30) (.cons (.var 31) (.cons (.var 32) (.cons (.var 33) (.cons (.var 34) (.cons (.var 0) (.cons (.var 1) (.cons (.var 2) (.cons (.var 3) (.cons (.var 4) .nil)))))))))))
      (.lt (.app 21 (.cons (.var 30) (.cons (.var 31) (.cons (.var 32) (.cons (.var 33) (.cons (.var 34) (.cons (.var 0) (.cons (.var 1) (.cons (.var 2) (.cons (.var 3) (.cons (.var 4) .nil)))))))))) 0) 1
      (.need (.ite (.bin .eq (.var 35) (.n 0)) (.var 48) (.t false)) (.pre 11 (.cons (.var 24) (.cons (.var 25) (.cons (.var 26) (.cons (.var 27) (.cons (.var 28) .nil))))))
      (.lt (.app 11 (.cons (.var 24) (.cons (.var 25) (.cons (.var 26) (.cons (.var 27) (.cons (.var 28) .nil))))) 0) 1
      (.need (.ite (.ite (.ite (.bin .eq (.var 35) (.n 0)) (.var 48) (.t false)) (.bin .eq (.var 49) (.n 0)) (.t false)) (.bin .eq (.var 41) (.var 47)) (.t false)) (.pre 21 (.cons (.var 36) (.cons (.var 37) (.cons (.var 38) (.cons (.var 39) (.cons (.var 40) (.cons (.var 42) (.cons (.var 43) (.cons (.var 44) (.cons (.var 45) (.cons (.var 46) .nil)))))))))))
      (.lt (.app 21 (.cons (.var 36) (.cons (.var 37) (.cons (.var 38) (.cons (.var 39) (.cons (.var 40) (.cons (.var 42) (.cons (.var 43) (.cons (.var 44) (.cons (.var 45) (.cons (.var 46) .nil)))))))))) 0) 1
      (.need (.ite (.ite (.ite (.ite (.bin .eq (.var 35) (.n 0)) (.var 48) (.t false)) (.bin .eq (.var 49) (.n 0)) (.t false)) (.bin .eq (.var 41) (.var 47)) (.t false)) (.var 50) (.t false)) (.pre 10 .nil)
      (.lt (.app 10 .nil 0) 1
      (.ret (.cons (.ite (.ite (.ite (.ite (.ite (.bin .eq (.var 35) (.n 0)) (.var 48) (.t false)) (.bin .eq (.var 49) (.n 0)) (.t false)) (.bin .eq (.var 41) (.var 47)) (.t false)) (.var 50) (.t false)) (.var 51) (.t false)) .nil))))))))))))))))))))))))))))))))
theorem e8 : (fnVT Try.prog (sgOf sg8) (ltOf lt8) S8 Try.f8 c8).slim (S8.ps.map fun p => p.2.length).sum [] = vt8 := by kernel_rfl
end Go.Proofs.Ythpppbfiiphgoaa.rv
