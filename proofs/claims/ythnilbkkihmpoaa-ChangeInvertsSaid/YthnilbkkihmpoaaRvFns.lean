/-
  The functions of the program as they are run: printed by program.
-/
import Derived.Test.YthnilbkkihmpoaaRvUse
import Derived.Test.YthnilbkkihmpoaaRvPfn
import Derived.Test.YthnilbkkihmpoaaChecked
namespace Go.Proofs.Ythnilbkkihmpoaa.rv
open Go.RV
set_option maxRecDepth 100000
theorem mixed : Try.prog.follows .mixedOrders = true := by kernel_rfl
/-! ### function values -/
def S20030 : Sig := ⟨[(false, [.clo]), (true, [.str, .str, (.int .i64), (.int .i64), (.int .i64), (.sl 75 [.str, (.int .i64)])])], [(false, [.bool])], [], none⟩
def S20062 : Sig := ⟨[(false, [.clo]), (true, [.str, (.int .i64)])], [(false, [.bool])], [], none⟩
def S20076 : Sig := ⟨[(false, [.clo]), (true, [.str, (.int .i64)])], [(false, [.bool])], [], none⟩
/-! ### 8 -/
def S8 : Sig := ⟨[(true, [.str, .bool, (.sl 29 [.str, .str, (.int .i64), (.int .i64), (.int .i64), (.sl 75 [.str, (.int .i64)])]), (.sl 31 [(.int .i64), (.int .i64), (.int .i64), (.int .i64), .str, (.int .i64), (.int .i64)]), (.sl 61 [.str, (.int .i64)])]), (false, [(.sl 33 [(.int .i64), (.int .i64), .str, .str, (.int .i64), (.int .i64), (.int .i64), (.sl 75 [.str, (.int .i64)]), (.int .i64), (.int .i64), (.int .i64), (.int .i64), .str, (.int .i64), (.int .i64)])])], [(false, [.bool])], [], none⟩
noncomputable def c8 : Code := Try.f8.body.getD .skip
theorem b8 : Try.f8.body = some c8 := body_some (by kernel_rfl)
theorem n8 : (Try.f8.name == "runtime.NumGoroutine") = false := by kernel_rfl
def sg8 : List (FuncId × Sig) := []
def L8_0 : LoopSig := ⟨10800, [],
   ⟨[.any, .any, (.c (.ptr 0 0)), .any, (.c (.x .bool (.var 0))), (.c (.x (.int .i64) (.var 1))), .any, .any, .any, .any, .any, .any, .any, .any, .any, .any, .any, .any, .any, .any, .any, .any, .any, .any, .any, .any, .any, .any, .any, .any, .any, .any, .any, .any, .any, .any, .any, .any, .any, .any, .any, .any, .any, .any, .any, .any, .any, .any, .any, .any, .any, .any, .any, .any, .any, .any, .any],
    [some ⟨(.t true), (.box 26 [(.x .str (.var 2)), (.x .bool (.var 3)), (.x (.sl 29 [.str, .str, (.int .i64), (.int .i64), (.int .i64), (.sl 75 [.str, (.int .i64)])]) (.var 4)), (.x (.sl 31 [(.int .i64), (.int .i64), (.int .i64), (.int .i64), .str, (.int .i64), (.int .i64)]) (.var 5)), (.x (.sl 61 [.str, (.int .i64)]) (.var 6))] false)⟩]⟩,
   7, [0, 1], [28, 29, 30, 31, 32, 35, 36, 37, 38, 39, 40, 41, 42, 4, 33, 34, 5], [.ret, (.exit 0)], []⟩
def L8_1 : LoopSig := ⟨10801, [],
   ⟨[.any, (.c (.x (.sl 33 [(.int .i64), (.int .i64), .str, .str, (.int .i64), (.int .i64), (.int .i64), (.sl 75 [.str, (.int .i64)]), (.int .i64), (.int .i64), (.int .i64), (.int .i64), .str, (.int .i64), (.int .i64)]) (.var 0))), .any, .any, (.c (.x .bool (.var 1))), .any, (.c (.x (.int .i64) (.var 2))), .any, .any, .any, .any, .any, .any, .any, .any, .any, .any, .any, .any, .any, .any, .any, .any, .any, .any, .any, .any, .any, .any, .any, .any, .any, .any, .any, .any, .any, .any, .any, .any, .any, .any, .any, .any, .any, .any, .any, .any, .any, .any, .any, .any, .any, .any, .any, .any, .any, .any],
    [none]⟩,
   3, [1, 2], [43, 44, 45, 46, 49, 50, 51, 52, 53, 54, 55, 56, 4, 47, 48, 6], [.ret, (.exit 2)], []⟩
def lt8 : List (Nat × LoopSig) := [(4, L8_0), (9, L8_1)]
theorem k8 : (Code.loops c8).length = 2 := by kernel_rfl
noncomputable def lb8_0 : Code := (Code.loops c8).getD 0 .skip
noncomputable def lb8_1 : Code := (Code.loops c8).getD 1 .skip
def rt8_0 : VT :=
  (.ite (.bin .lt (.var 1) (.un .len (.var 4)))
   (.need (.t true) (.c (.bin .le (.n 0) (.var 1)))
   (.ite (.bin .lt (.n 20) (.un .len (.sel 5 (.var 4) (.var 1))))
    (.ret (.cons (.n 0) (.cons (.t false) (.cons (.var 1) .nil))))
    (.ret (.cons (.n (-1)) (.cons (.var 0) (.cons (.bin (.add .i64) (.var 1) (.n 1)) .nil))))))
   (.ret (.cons (.n 1) (.cons (.var 0) (.cons (.var 1) .nil)))))
theorem le8_0 : (loopVT Try.prog (sgOf sg8) (ltOf lt8) L8_0 lb8_0).slim L8_0.nv [] = rt8_0 := by kernel_rfl
theorem lf8_0 : (firstRegion lb8_0).bind (ltOf lt8) = some L8_0 := by kernel_rfl
theorem lk8_0 : (Code.loops lb8_0).length = 0 := by kernel_rfl
def rt8_1 : VT :=
  (.ite (.bin .lt (.var 2) (.un .len (.var 0)))
   (.need (.t true) (.c (.bin .le (.n 0) (.var 2)))
   (.ite (.bin .lt (.n 20) (.un .len (.sel 7 (.var 0) (.var 2))))
    (.ret (.cons (.n 0) (.cons (.t false) (.cons (.var 2) .nil))))
    (.ret (.cons (.n (-1)) (.cons (.var 1) (.cons (.bin (.add .i64) (.var 2) (.n 1)) .nil))))))
   (.ret (.cons (.n 1) (.cons (.var 1) (.cons (.var 2) .nil)))))
theorem le8_1 : (loopVT Try.prog (sgOf sg8) (ltOf lt8) L8_1 lb8_1).slim L8_1.nv [] = rt8_1 := by kernel_rfl
theorem lf8_1 : (firstRegion lb8_1).bind (ltOf lt8) = some L8_1 := by kernel_rfl
theorem lk8_1 : (Code.loops lb8_1).length = 0 := by kernel_rfl
def vt8 : VT :=
  (.ite (.ite (.ite (.ite (.bin .lt (.n 80) (.un .len (.var 2))) (.t true) (.bin .lt (.n 300) (.un .len (.var 3)))) (.t true) (.bin .lt (.n 30) (.un .len (.var 4)))) (.t true) (.bin .lt (.n 20) (.un .len (.var 5))))
   (.ret (.cons (.t false) .nil))
   (.need (.t true) (.pre 10800 (.cons (.t false) (.cons (.n 0) (.cons (.var 0) (.cons (.var 1) (.cons (.var 2) (.cons (.var 3) (.cons (.var 4) .nil))))))))
   (.lt (.app 10800 (.cons (.t false) (.cons (.n 0) (.cons (.var 0) (.cons (.var 1) (.cons (.var 2) (.cons (.var 3) (.cons (.var 4) .nil))))))) 0) 3
   (.ite (.bin .eq (.var 6) (.n 0))
    (.ret (.cons (.var 7) .nil))
    (.need (.t true) (.pre 10801 (.cons (.var 5) (.cons (.var 7) (.cons (.n 0) .nil))))
    (.lt (.app 10801 (.cons (.var 5) (.cons (.var 7) (.cons (.n 0) .nil))) 0) 3
    (.ite (.bin .eq (.var 9) (.n 0))
     (.ret (.cons (.var 10) .nil))
     (.ret (.cons (.t true) .nil)))))))))
theorem e8 : (fnVT Try.prog (sgOf sg8) (ltOf lt8) S8 Try.f8 c8).slim (S8.ps.map fun p => p.2.length).sum [] = vt8 := by kernel_rfl

/-! ### 69 -/
def S69 : Sig := ⟨[(false, [(.int .u8)])], [(false, [.bool])], [], none⟩
noncomputable def c69 : Code := Try.f69.body.getD .skip
theorem b69 : Try.f69.body = some c69 := body_some (by kernel_rfl)
theorem n69 : (Try.f69.name == "runtime.NumGoroutine") = false := by kernel_rfl
def sg69 : List (FuncId × Sig) := []
def lt69 : List (Nat × LoopSig) := []
theorem k69 : (Code.loops c69).length = 0 := by kernel_rfl
def vt69 : VT :=
  (.ret (.cons (.ite (.ite (.ite (.bin .le (.n 97) (.var 0)) (.bin .le (.var 0) (.n 122)) (.t false)) (.t true) (.ite (.bin .le (.n 65) (.var 0)) (.bin .le (.var 0) (.n 90)) (.t false))) (.t true) (.bin .eq (.var 0) (.n 95))) .nil))
theorem e69 : (fnVT Try.prog (sgOf sg69) (ltOf lt69) S69 Try.f69 c69).slim (S69.ps.map fun p => p.2.length).sum [] = vt69 := by kernel_rfl
def T69 : FuncId → List D → List D := tabOf []
def fn69 (ρ : List D) : List D := vt69.val T69 ρ
theorem m69 : Meets Try.prog 69 S69 (fun _ => True) fn69 := meets_easy (sgl := sg69) (Φ := T69) mixed ((fun _ h => nomatch h)) Try.func69 b69 n69 k69 e69 (by kernel_rfl)

/-! ### 70 -/
def S70 : Sig := ⟨[(false, [(.int .u8)])], [(false, [.bool])], [], none⟩
noncomputable def c70 : Code := Try.f70.body.getD .skip
theorem b70 : Try.f70.body = some c70 := body_some (by kernel_rfl)
theorem n70 : (Try.f70.name == "runtime.NumGoroutine") = false := by kernel_rfl
def sg70 : List (FuncId × Sig) := []
def lt70 : List (Nat × LoopSig) := []
theorem k70 : (Code.loops c70).length = 0 := by kernel_rfl
def vt70 : VT :=
  (.ret (.cons (.ite (.bin .le (.n 48) (.var 0)) (.bin .le (.var 0) (.n 57)) (.t false)) .nil))
theorem e70 : (fnVT Try.prog (sgOf sg70) (ltOf lt70) S70 Try.f70 c70).slim (S70.ps.map fun p => p.2.length).sum [] = vt70 := by kernel_rfl
def T70 : FuncId → List D → List D := tabOf []
def fn70 (ρ : List D) : List D := vt70.val T70 ρ
theorem m70 : Meets Try.prog 70 S70 (fun _ => True) fn70 := meets_easy (sgl := sg70) (Φ := T70) mixed ((fun _ h => nomatch h)) Try.func70 b70 n70 k70 e70 (by kernel_rfl)

/-! ### 53 -/
def S53 : Sig := ⟨[(false, [.str])], [(false, [(.int .i64)])], [], none⟩
noncomputable def c53 : Code := Try.f53.body.getD .skip
theorem b53 : Try.f53.body = some c53 := body_some (by kernel_rfl)
theorem n53 : (Try.f53.name == "runtime.NumGoroutine") = false := by kernel_rfl
def sg53 : List (FuncId × Sig) := [(69, S69), (70, S70)]
def L53_0 : LoopSig := ⟨15300, [],
   ⟨[(.c (.x .str (.var 0))), .any, .any, (.c (.x (.int .i64) (.var 1))), .any, .any, .any, .any, .any, .any, .any, .any, .any, .any, .any, .any, .any, .any, .any, .any, .any, .any, .any, .any, .any, .any, .any],
    []⟩,
   2, [1], [4, 5, 6, 7, 8, 9, 10, 11, 12, 13, 14, 15, 16, 17, 18, 19, 20, 21, 22, 23, 24, 25, 3], [(.exit 0)], []⟩
def lt53 : List (Nat × LoopSig) := [(2, L53_0)]
theorem k53 : (Code.loops c53).length = 1 := by kernel_rfl
noncomputable def lb53_0 : Code := (Code.loops c53).getD 0 .skip
def rt53_0 : VT :=
  (.need (.bin .lt (.var 1) (.un .slen (.var 0))) (.c (.bin .le (.n 0) (.var 1)))
  (.need (.bin .lt (.var 1) (.un .slen (.var 0))) (.c (.bin .lt (.var 1) (.un .slen (.var 0))))
  (.need (.bin .lt (.var 1) (.un .slen (.var 0))) (.pre 69 (.cons (.bin .sidx (.var 0) (.var 1)) .nil))
  (.lt (.app 69 (.cons (.bin .sidx (.var 0) (.var 1)) .nil) 0) 1
  (.need (.ite (.ite (.bin .lt (.var 1) (.un .slen (.var 0))) (.un .not (.var 2)) (.t false)) (.bin .lt (.n 0) (.var 1)) (.t false)) (.c (.bin .le (.n 0) (.var 1)))
  (.need (.ite (.ite (.bin .lt (.var 1) (.un .slen (.var 0))) (.un .not (.var 2)) (.t false)) (.bin .lt (.n 0) (.var 1)) (.t false)) (.c (.bin .lt (.var 1) (.un .slen (.var 0))))
  (.need (.ite (.ite (.bin .lt (.var 1) (.un .slen (.var 0))) (.un .not (.var 2)) (.t false)) (.bin .lt (.n 0) (.var 1)) (.t false)) (.pre 70 (.cons (.bin .sidx (.var 0) (.var 1)) .nil))
  (.lt (.app 70 (.cons (.bin .sidx (.var 0) (.var 1)) .nil) 0) 1
  (.ite (.ite (.bin .lt (.var 1) (.un .slen (.var 0))) (.ite (.var 2) (.t true) (.ite (.bin .lt (.n 0) (.var 1)) (.var 3) (.t false))) (.t false))
   (.ret (.cons (.n (-1)) (.cons (.bin (.add .i64) (.var 1) (.n 1)) .nil)))
   (.ret (.cons (.n 0) (.cons (.var 1) .nil))))))))))))
theorem le53_0 : (loopVT Try.prog (sgOf sg53) (ltOf lt53) L53_0 lb53_0).slim L53_0.nv [] = rt53_0 := by kernel_rfl
theorem lf53_0 : (firstRegion lb53_0).bind (ltOf lt53) = some L53_0 := by kernel_rfl
theorem lk53_0 : (Code.loops lb53_0).length = 0 := by kernel_rfl
def vt53 : VT :=
  (.need (.t true) (.pre 15300 (.cons (.var 0) (.cons (.n 0) .nil)))
  (.lt (.app 15300 (.cons (.var 0) (.cons (.n 0) .nil)) 0) 2
  (.ret (.cons (.var 2) .nil))))
theorem e53 : (fnVT Try.prog (sgOf sg53) (ltOf lt53) S53 Try.f53 c53).slim (S53.ps.map fun p => p.2.length).sum [] = vt53 := by kernel_rfl

/-! ### 54 -/
def S54 : Sig := ⟨[(false, [.str])], [(false, [.bool])], [], none⟩
noncomputable def c54 : Code := Try.f54.body.getD .skip
theorem b54 : Try.f54.body = some c54 := body_some (by kernel_rfl)
theorem n54 : (Try.f54.name == "runtime.NumGoroutine") = false := by kernel_rfl
def sg54 : List (FuncId × Sig) := []
def lt54 : List (Nat × LoopSig) := []
theorem k54 : (Code.loops c54).length = 0 := by kernel_rfl
def vt54 : VT :=
  (.ite (.bin .seq (.var 0) (.str ⟨#[100, 105, 103, 114, 97, 112, 104]⟩))
   (.ret (.cons (.t true) .nil))
   (.ite (.bin .seq (.var 0) (.str ⟨#[103, 114, 97, 112, 104]⟩))
    (.ret (.cons (.t true) .nil))
    (.ite (.bin .seq (.var 0) (.str ⟨#[110, 111, 100, 101]⟩))
     (.ret (.cons (.t true) .nil))
     (.ite (.bin .seq (.var 0) (.str ⟨#[101, 100, 103, 101]⟩))
      (.ret (.cons (.t true) .nil))
      (.ite (.bin .seq (.var 0) (.str ⟨#[115, 101, 116]⟩))
       (.ret (.cons (.t true) .nil))
       (.ite (.bin .seq (.var 0) (.str ⟨#[99, 108, 117, 115, 116, 101, 114]⟩))
        (.ret (.cons (.t true) .nil))
        (.ret (.cons (.t false) .nil))))))))
theorem e54 : (fnVT Try.prog (sgOf sg54) (ltOf lt54) S54 Try.f54 c54).slim (S54.ps.map fun p => p.2.length).sum [] = vt54 := by kernel_rfl
def T54 : FuncId → List D → List D := tabOf []
def fn54 (ρ : List D) : List D := vt54.val T54 ρ
theorem m54 : Meets Try.prog 54 S54 (fun _ => True) fn54 := meets_easy (sgl := sg54) (Φ := T54) mixed ((fun _ h => nomatch h)) Try.func54 b54 n54 k54 e54 (by kernel_rfl)

/-! ### 37 -/
def S37 : Sig := ⟨[(false, [.str])], [(false, [.bool])], [], none⟩
noncomputable def c37 : Code := Try.f37.body.getD .skip
theorem b37 : Try.f37.body = some c37 := body_some (by kernel_rfl)
theorem n37 : (Try.f37.name == "runtime.NumGoroutine") = false := by kernel_rfl
def sg37 : List (FuncId × Sig) := [(53, S53), (54, S54)]
def lt37 : List (Nat × LoopSig) := []
theorem k37 : (Code.loops c37).length = 0 := by kernel_rfl
def vt37 : VT :=
  (.need (.ite (.un .not (.bin .seq (.var 0) (.str ⟨#[]⟩))) (.bin .le (.un .slen (.var 0)) (.n 16)) (.t false)) (.pre 53 (.cons (.var 0) .nil))
  (.lt (.app 53 (.cons (.var 0) .nil) 0) 1
  (.need (.ite (.ite (.un .not (.bin .seq (.var 0) (.str ⟨#[]⟩))) (.bin .le (.un .slen (.var 0)) (.n 16)) (.t false)) (.bin .eq (.var 1) (.un .slen (.var 0))) (.t false)) (.pre 54 (.cons (.var 0) .nil))
  (.lt (.app 54 (.cons (.var 0) .nil) 0) 1
  (.ret (.cons (.ite (.ite (.ite (.un .not (.bin .seq (.var 0) (.str ⟨#[]⟩))) (.bin .le (.un .slen (.var 0)) (.n 16)) (.t false)) (.bin .eq (.var 1) (.un .slen (.var 0))) (.t false)) (.un .not (.var 2)) (.t false)) .nil))))))
theorem e37 : (fnVT Try.prog (sgOf sg37) (ltOf lt37) S37 Try.f37 c37).slim (S37.ps.map fun p => p.2.length).sum [] = vt37 := by kernel_rfl

/-! ### 72 -/
def S72 : Sig := ⟨[(true, [.str, .str, (.int .i64), (.int .i64), (.int .i64), (.sl 75 [.str, (.int .i64)])]), (false, [(.pt [.str])])], [(false, [.bool])], [], none⟩
noncomputable def c72 : Code := Try.f72.body.getD .skip
theorem b72 : Try.f72.body = some c72 := body_some (by kernel_rfl)
theorem n72 : (Try.f72.name == "runtime.NumGoroutine") = false := by kernel_rfl
def sg72 : List (FuncId × Sig) := []
def lt72 : List (Nat × LoopSig) := []
theorem k72 : (Code.loops c72).length = 0 := by kernel_rfl
def vt72 : VT :=
  (.ret (.cons (.bin .seq (.var 0) (.psel 0 (.var 6))) .nil))
theorem e72 : (fnVT Try.prog (sgOf sg72) (ltOf lt72) S72 Try.f72 c72).slim (S72.ps.map fun p => p.2.length).sum [] = vt72 := by kernel_rfl
def T72 : FuncId → List D → List D := tabOf []
def fn72 (ρ : List D) : List D := vt72.val T72 ρ
theorem m72 : Meets Try.prog 72 S72 (fun _ => True) fn72 := meets_easy (sgl := sg72) (Φ := T72) mixed ((fun _ h => nomatch h)) Try.func72 b72 n72 k72 e72 (by kernel_rfl)

/-! ### 71 -/
def S71 : Sig := ⟨[(false, [(.sl 29 [.str, .str, (.int .i64), (.int .i64), (.int .i64), (.sl 75 [.str, (.int .i64)])])]), (false, [.clo])], [(false, [(.int .i64)])], [], none⟩
noncomputable def c71 : Code := Try.f71.body.getD .skip
theorem b71 : Try.f71.body = some c71 := body_some (by kernel_rfl)
theorem n71 : (Try.f71.name == "runtime.NumGoroutine") = false := by kernel_rfl
def sg71 : List (FuncId × Sig) := [(20030, S20030)]
def L71_0 : LoopSig := ⟨17100, [],
   ⟨[(.c (.x (.sl 29 [.str, .str, (.int .i64), (.int .i64), (.int .i64), (.sl 75 [.str, (.int .i64)])]) (.var 0))), (.c (.x .clo (.var 1))), .any, .any, (.c (.x (.int .i64) (.var 2))), .any, .any, (.c (.x (.int .i64) (.var 3))), (.c (.x (.int .i64) (.var 4))), .any, .any, .any, .any, .any, .any, .any, .any, .any, .any],
    []⟩,
   5, [2, 4], [9, 10, 5, 11, 12, 13, 14, 15, 16, 17, 4, 18, 8], [.ret, (.exit 0)], []⟩
def lt71 : List (Nat × LoopSig) := [(2, L71_0)]
theorem k71 : (Code.loops c71).length = 1 := by kernel_rfl
noncomputable def lb71_0 : Code := (Code.loops c71).getD 0 .skip
def rt71_0 : VT :=
  (.ite (.bin .lt (.var 4) (.var 3))
   (.need (.t true) (.c (.bin .le (.n 0) (.var 4)))
   (.need (.t true) (.c (.bin .lt (.var 4) (.un .len (.var 0))))
   (.need (.t true) (.pre 20030 (.cons (.var 1) (.cons (.sel 0 (.var 0) (.var 4)) (.cons (.sel 1 (.var 0) (.var 4)) (.cons (.sel 2 (.var 0) (.var 4)) (.cons (.sel 3 (.var 0) (.var 4)) (.cons (.sel 4 (.var 0) (.var 4)) (.cons (.sel 5 (.var 0) (.var 4)) .nil))))))))
   (.lt (.app 20030 (.cons (.var 1) (.cons (.sel 0 (.var 0) (.var 4)) (.cons (.sel 1 (.var 0) (.var 4)) (.cons (.sel 2 (.var 0) (.var 4)) (.cons (.sel 3 (.var 0) (.var 4)) (.cons (.sel 4 (.var 0) (.var 4)) (.cons (.sel 5 (.var 0) (.var 4)) .nil))))))) 0) 1
   (.ite (.var 5)
    (.ret (.cons (.n 0) (.cons (.var 4) (.cons (.var 4) .nil))))
    (.ret (.cons (.n (-1)) (.cons (.var 2) (.cons (.bin (.add .i64) (.var 4) (.n 1)) .nil)))))))))
   (.ret (.cons (.n 1) (.cons (.var 2) (.cons (.var 4) .nil)))))
theorem le71_0 : (loopVT Try.prog (sgOf sg71) (ltOf lt71) L71_0 lb71_0).slim L71_0.nv [] = rt71_0 := by kernel_rfl
theorem lf71_0 : (firstRegion lb71_0).bind (ltOf lt71) = some L71_0 := by kernel_rfl
theorem lk71_0 : (Code.loops lb71_0).length = 0 := by kernel_rfl
def vt71 : VT :=
  (.need (.t true) (.pre 17100 (.cons (.var 0) (.cons (.var 1) (.cons (.n 0) (.cons (.un .len (.var 0)) (.cons (.n 0) .nil))))))
  (.lt (.app 17100 (.cons (.var 0) (.cons (.var 1) (.cons (.n 0) (.cons (.un .len (.var 0)) (.cons (.n 0) .nil))))) 0) 3
  (.ite (.bin .eq (.var 2) (.n 0))
   (.ret (.cons (.var 3) .nil))
   (.ret (.cons (.n (-1)) .nil)))))
theorem e71 : (fnVT Try.prog (sgOf sg71) (ltOf lt71) S71 Try.f71 c71).slim (S71.ps.map fun p => p.2.length).sum [] = vt71 := by kernel_rfl

/-! ### 55 -/
def S55 : Sig := ⟨[(true, [.str, .bool, (.sl 29 [.str, .str, (.int .i64), (.int .i64), (.int .i64), (.sl 75 [.str, (.int .i64)])]), (.sl 31 [(.int .i64), (.int .i64), (.int .i64), (.int .i64), .str, (.int .i64), (.int .i64)]), (.sl 61 [.str, (.int .i64)])]), (false, [.str])], [(false, [(.int .i64)])], [], none⟩
noncomputable def c55 : Code := Try.f55.body.getD .skip
theorem b55 : Try.f55.body = some c55 := body_some (by kernel_rfl)
theorem n55 : (Try.f55.name == "runtime.NumGoroutine") = false := by kernel_rfl
def sg55 : List (FuncId × Sig) := [(71, S71)]
def lt55 : List (Nat × LoopSig) := []
theorem k55 : (Code.loops c55).length = 0 := by kernel_rfl
def vt55 : VT :=
  (.need (.t true) (.pre 71 (.cons (.var 2) (.cons (.clo 72 [(.pt [.str])] (.cons (.pk (.cons (.var 5) .nil)) .nil)) .nil)))
  (.lt (.app 71 (.cons (.var 2) (.cons (.clo 72 [(.pt [.str])] (.cons (.pk (.cons (.var 5) .nil)) .nil)) .nil)) 0) 1
  (.ret (.cons (.var 6) .nil))))
theorem e55 : (fnVT Try.prog (sgOf sg55) (ltOf lt55) S55 Try.f55 c55).slim (S55.ps.map fun p => p.2.length).sum [] = vt55 := by kernel_rfl

/-! ### 56 -/
def S56 : Sig := ⟨[(false, [.str])], [(false, [(.int .i64)])], [], none⟩
noncomputable def c56 : Code := Try.f56.body.getD .skip
theorem b56 : Try.f56.body = some c56 := body_some (by kernel_rfl)
theorem n56 : (Try.f56.name == "runtime.NumGoroutine") = false := by kernel_rfl
def sg56 : List (FuncId × Sig) := []
def L56_0 : LoopSig := ⟨15600, [],
   ⟨[.any, .any, (.c (.x (.int .i64) (.var 0))), .any, .any, .any, .any, .any, .any, (.c (.x (.sl 5 [(.int .u8)]) (.var 1))), (.c (.x (.int .i64) (.var 2))), (.c (.x (.int .i64) (.var 3))), .any, .any, .any, .any, .any, .any, .any, .any, .any, .any],
    []⟩,
   4, [0, 3], [12, 13, 14, 4, 15, 16, 17, 18, 19, 20, 2, 21, 11], [.ret, (.exit 0)], []⟩
def lt56 : List (Nat × LoopSig) := [(4, L56_0)]
theorem k56 : (Code.loops c56).length = 1 := by kernel_rfl
noncomputable def lb56_0 : Code := (Code.loops c56).getD 0 .skip
def rt56_0 : VT :=
  (.ite (.bin .lt (.var 3) (.var 2))
   (.need (.t true) (.c (.bin .le (.n 0) (.var 3)))
   (.need (.t true) (.c (.bin .lt (.var 3) (.un .len (.var 1))))
   (.ite (.ite (.bin .lt (.sel 0 (.var 1) (.var 3)) (.n 32)) (.t true) (.bin .lt (.n 126) (.sel 0 (.var 1) (.var 3))))
    (.ret (.cons (.n 0) (.cons (.n 7) (.cons (.var 3) .nil))))
    (.ret (.cons (.n (-1)) (.cons (.var 0) (.cons (.bin (.add .i64) (.var 3) (.n 1)) .nil)))))))
   (.ret (.cons (.n 1) (.cons (.var 0) (.cons (.var 3) .nil)))))
theorem le56_0 : (loopVT Try.prog (sgOf sg56) (ltOf lt56) L56_0 lb56_0).slim L56_0.nv [] = rt56_0 := by kernel_rfl
theorem lf56_0 : (firstRegion lb56_0).bind (ltOf lt56) = some L56_0 := by kernel_rfl
theorem lk56_0 : (Code.loops lb56_0).length = 0 := by kernel_rfl
def vt56 : VT :=
  (.ite (.bin .lt (.n 32) (.un .slen (.var 0)))
   (.ret (.cons (.n 2) .nil))
   (.need (.t true) (.pre 15600 (.cons (.n 0) (.cons (.un .bytes (.var 0)) (.cons (.un .len (.un .bytes (.var 0))) (.cons (.n 0) .nil)))))
   (.lt (.app 15600 (.cons (.n 0) (.cons (.un .bytes (.var 0)) (.cons (.un .len (.un .bytes (.var 0))) (.cons (.n 0) .nil)))) 0) 3
   (.ite (.bin .eq (.var 1) (.n 0))
    (.ret (.cons (.var 2) .nil))
    (.ret (.cons (.n 0) .nil))))))
theorem e56 : (fnVT Try.prog (sgOf sg56) (ltOf lt56) S56 Try.f56 c56).slim (S56.ps.map fun p => p.2.length).sum [] = vt56 := by kernel_rfl

/-! ### 57 -/
def S57 : Sig := ⟨[(false, [(.int .i64)])], [(false, [.bool])], [], none⟩
noncomputable def c57 : Code := Try.f57.body.getD .skip
theorem b57 : Try.f57.body = some c57 := body_some (by kernel_rfl)
theorem n57 : (Try.f57.name == "runtime.NumGoroutine") = false := by kernel_rfl
def sg57 : List (FuncId × Sig) := []
def lt57 : List (Nat × LoopSig) := []
theorem k57 : (Code.loops c57).length = 0 := by kernel_rfl
def vt57 : VT :=
  (.ret (.cons (.ite (.bin .le (.n 1) (.var 0)) (.bin .le (.var 0) (.n 1048576)) (.t false)) .nil))
theorem e57 : (fnVT Try.prog (sgOf sg57) (ltOf lt57) S57 Try.f57 c57).slim (S57.ps.map fun p => p.2.length).sum [] = vt57 := by kernel_rfl
def T57 : FuncId → List D → List D := tabOf []
def fn57 (ρ : List D) : List D := vt57.val T57 ρ
theorem m57 : Meets Try.prog 57 S57 (fun _ => True) fn57 := meets_easy (sgl := sg57) (Φ := T57) mixed ((fun _ h => nomatch h)) Try.func57 b57 n57 k57 e57 (by kernel_rfl)

/-! ### 74 -/
def S74 : Sig := ⟨[(true, [.str, (.int .i64)]), (false, [(.pt [.str, (.int .i64)])])], [(false, [.bool])], [], none⟩
noncomputable def c74 : Code := Try.f74.body.getD .skip
theorem b74 : Try.f74.body = some c74 := body_some (by kernel_rfl)
theorem n74 : (Try.f74.name == "runtime.NumGoroutine") = false := by kernel_rfl
def sg74 : List (FuncId × Sig) := []
def lt74 : List (Nat × LoopSig) := []
theorem k74 : (Code.loops c74).length = 0 := by kernel_rfl
def vt74 : VT :=
  (.ret (.cons (.bin .seq (.var 0) (.psel 0 (.var 2))) .nil))
theorem e74 : (fnVT Try.prog (sgOf sg74) (ltOf lt74) S74 Try.f74 c74).slim (S74.ps.map fun p => p.2.length).sum [] = vt74 := by kernel_rfl
def T74 : FuncId → List D → List D := tabOf []
def fn74 (ρ : List D) : List D := vt74.val T74 ρ
theorem m74 : Meets Try.prog 74 S74 (fun _ => True) fn74 := meets_easy (sgl := sg74) (Φ := T74) mixed ((fun _ h => nomatch h)) Try.func74 b74 n74 k74 e74 (by kernel_rfl)

/-! ### 79 -/
def S79 : Sig := ⟨[(false, [(.sl 75 [.str, (.int .i64)])]), (false, [.clo])], [(false, [(.int .i64)])], [], none⟩
noncomputable def c79 : Code := Try.f79.body.getD .skip
theorem b79 : Try.f79.body = some c79 := body_some (by kernel_rfl)
theorem n79 : (Try.f79.name == "runtime.NumGoroutine") = false := by kernel_rfl
def sg79 : List (FuncId × Sig) := [(20076, S20076)]
def L79_0 : LoopSig := ⟨17900, [],
   ⟨[(.c (.x (.sl 75 [.str, (.int .i64)]) (.var 0))), (.c (.x .clo (.var 1))), .any, .any, (.c (.x (.int .i64) (.var 2))), .any, .any, (.c (.x (.int .i64) (.var 3))), (.c (.x (.int .i64) (.var 4))), .any, .any, .any, .any, .any, .any, .any, .any, .any, .any],
    []⟩,
   5, [2, 4], [9, 10, 5, 11, 12, 13, 14, 15, 16, 17, 4, 18, 8], [.ret, (.exit 0)], []⟩
def lt79 : List (Nat × LoopSig) := [(2, L79_0)]
theorem k79 : (Code.loops c79).length = 1 := by kernel_rfl
noncomputable def lb79_0 : Code := (Code.loops c79).getD 0 .skip
def rt79_0 : VT :=
  (.ite (.bin .lt (.var 4) (.var 3))
   (.need (.t true) (.c (.bin .le (.n 0) (.var 4)))
   (.need (.t true) (.c (.bin .lt (.var 4) (.un .len (.var 0))))
   (.need (.t true) (.pre 20076 (.cons (.var 1) (.cons (.sel 0 (.var 0) (.var 4)) (.cons (.sel 1 (.var 0) (.var 4)) .nil))))
   (.lt (.app 20076 (.cons (.var 1) (.cons (.sel 0 (.var 0) (.var 4)) (.cons (.sel 1 (.var 0) (.var 4)) .nil))) 0) 1
   (.ite (.var 5)
    (.ret (.cons (.n 0) (.cons (.var 4) (.cons (.var 4) .nil))))
    (.ret (.cons (.n (-1)) (.cons (.var 2) (.cons (.bin (.add .i64) (.var 4) (.n 1)) .nil)))))))))
   (.ret (.cons (.n 1) (.cons (.var 2) (.cons (.var 4) .nil)))))
theorem le79_0 : (loopVT Try.prog (sgOf sg79) (ltOf lt79) L79_0 lb79_0).slim L79_0.nv [] = rt79_0 := by kernel_rfl
theorem lf79_0 : (firstRegion lb79_0).bind (ltOf lt79) = some L79_0 := by kernel_rfl
theorem lk79_0 : (Code.loops lb79_0).length = 0 := by kernel_rfl
def vt79 : VT :=
  (.need (.t true) (.pre 17900 (.cons (.var 0) (.cons (.var 1) (.cons (.n 0) (.cons (.un .len (.var 0)) (.cons (.n 0) .nil))))))
  (.lt (.app 17900 (.cons (.var 0) (.cons (.var 1) (.cons (.n 0) (.cons (.un .len (.var 0)) (.cons (.n 0) .nil))))) 0) 3
  (.ite (.bin .eq (.var 2) (.n 0))
   (.ret (.cons (.var 3) .nil))
   (.ret (.cons (.n (-1)) .nil)))))
theorem e79 : (fnVT Try.prog (sgOf sg79) (ltOf lt79) S79 Try.f79 c79).slim (S79.ps.map fun p => p.2.length).sum [] = vt79 := by kernel_rfl

/-! ### 73 -/
def S73 : Sig := ⟨[(false, [(.sl 75 [.str, (.int .i64)])]), (false, [.clo])], [(false, [.bool])], [], none⟩
noncomputable def c73 : Code := Try.f73.body.getD .skip
theorem b73 : Try.f73.body = some c73 := body_some (by kernel_rfl)
theorem n73 : (Try.f73.name == "runtime.NumGoroutine") = false := by kernel_rfl
def sg73 : List (FuncId × Sig) := [(79, S79)]
def lt73 : List (Nat × LoopSig) := []
theorem k73 : (Code.loops c73).length = 0 := by kernel_rfl
def vt73 : VT :=
  (.need (.t true) (.pre 79 (.cons (.var 0) (.cons (.var 1) .nil)))
  (.lt (.app 79 (.cons (.var 0) (.cons (.var 1) .nil)) 0) 1
  (.ret (.cons (.bin .le (.n 0) (.var 2)) .nil))))
theorem e73 : (fnVT Try.prog (sgOf sg73) (ltOf lt73) S73 Try.f73 c73).slim (S73.ps.map fun p => p.2.length).sum [] = vt73 := by kernel_rfl

/-! ### 58 -/
def S58 : Sig := ⟨[(false, [(.sl 75 [.str, (.int .i64)])])], [(false, [(.int .i64)])], [], none⟩
noncomputable def c58 : Code := Try.f58.body.getD .skip
theorem b58 : Try.f58.body = some c58 := body_some (by kernel_rfl)
theorem n58 : (Try.f58.name == "runtime.NumGoroutine") = false := by kernel_rfl
def sg58 : List (FuncId × Sig) := [(37, S37), (73, S73)]
def L58_0 : LoopSig := ⟨15800, [],
   ⟨[(.c (.x (.sl 75 [.str, (.int .i64)]) (.var 0))), .any, (.c (.x (.int .i64) (.var 1))), .any, .any, .any, .any, .any, (.c (.x (.sl 75 [.str, (.int .i64)]) (.var 2))), (.c (.x (.int .i64) (.var 3))), (.c (.x (.int .i64) (.var 4))), .any, .any, .any, .any, .any, .any, .any, .any, .any, .any, .any, .any, .any, .any, .any, .any, .any, .any, .any, .any, .any, .any, .any, .any, .any],
    []⟩,
   5, [1, 4], [11, 12, 13, 14, 4, 3, 16, 17, 18, 19, 15, 2, 21, 22, 23, 24, 25, 20, 27, 28, 29, 30, 31, 32, 33, 34, 26, 35, 10], [.ret, (.exit 0)], []⟩
def lt58 : List (Nat × LoopSig) := [(4, L58_0)]
theorem k58 : (Code.loops c58).length = 1 := by kernel_rfl
noncomputable def lb58_0 : Code := (Code.loops c58).getD 0 .skip
def rt58_0 : VT :=
  (.ite (.bin .lt (.var 4) (.var 3))
   (.need (.t true) (.c (.bin .le (.n 0) (.var 4)))
   (.need (.t true) (.c (.bin .lt (.var 4) (.un .len (.var 2))))
   (.need (.t true) (.pre 37 (.cons (.sel 0 (.var 2) (.var 4)) .nil))
   (.lt (.app 37 (.cons (.sel 0 (.var 2) (.var 4)) .nil) 0) 1
   (.ite (.un .not (.var 5))
    (.ret (.cons (.n 0) (.cons (.n 5) (.cons (.var 4) .nil))))
    (.need (.t true) (.c (.bin .le (.var 4) (.un .len (.var 0))))
    (.need (.t true) (.pre 73 (.cons (.sub (.var 0) (.n 0) (.var 4)) (.cons (.clo 74 [(.pt [.str, (.int .i64)])] (.cons (.pk (.cons (.sel 0 (.var 2) (.var 4)) (.cons (.sel 1 (.var 2) (.var 4)) .nil))) .nil)) .nil)))
    (.lt (.app 73 (.cons (.sub (.var 0) (.n 0) (.var 4)) (.cons (.clo 74 [(.pt [.str, (.int .i64)])] (.cons (.pk (.cons (.sel 0 (.var 2) (.var 4)) (.cons (.sel 1 (.var 2) (.var 4)) .nil))) .nil)) .nil)) 0) 1
    (.ite (.var 6)
     (.ret (.cons (.n 0) (.cons (.n 6) (.cons (.var 4) .nil))))
     (.ite (.ite (.bin .lt (.sel 1 (.var 2) (.var 4)) (.n 0)) (.t true) (.bin .lt (.n 3) (.sel 1 (.var 2) (.var 4))))
      (.ret (.cons (.n 0) (.cons (.n 7) (.cons (.var 4) .nil))))
      (.ret (.cons (.n (-1)) (.cons (.var 1) (.cons (.bin (.add .i64) (.var 4) (.n 1)) .nil))))))))))))))
   (.ret (.cons (.n 1) (.cons (.var 1) (.cons (.var 4) .nil)))))
theorem le58_0 : (loopVT Try.prog (sgOf sg58) (ltOf lt58) L58_0 lb58_0).slim L58_0.nv [] = rt58_0 := by kernel_rfl
theorem lf58_0 : (firstRegion lb58_0).bind (ltOf lt58) = some L58_0 := by kernel_rfl
theorem lk58_0 : (Code.loops lb58_0).length = 0 := by kernel_rfl
def vt58 : VT :=
  (.ite (.bin .lt (.n 8) (.un .len (.var 0)))
   (.ret (.cons (.n 2) .nil))
   (.need (.t true) (.pre 15800 (.cons (.var 0) (.cons (.n 0) (.cons (.var 0) (.cons (.un .len (.var 0)) (.cons (.n 0) .nil))))))
   (.lt (.app 15800 (.cons (.var 0) (.cons (.n 0) (.cons (.var 0) (.cons (.un .len (.var 0)) (.cons (.n 0) .nil))))) 0) 3
   (.ite (.bin .eq (.var 1) (.n 0))
    (.ret (.cons (.var 2) .nil))
    (.ret (.cons (.n 0) .nil))))))
theorem e58 : (fnVT Try.prog (sgOf sg58) (ltOf lt58) S58 Try.f58 c58).slim (S58.ps.map fun p => p.2.length).sum [] = vt58 := by kernel_rfl

/-! ### 38 -/
def S38 : Sig := ⟨[(true, [.str, .bool, (.sl 29 [.str, .str, (.int .i64), (.int .i64), (.int .i64), (.sl 75 [.str, (.int .i64)])]), (.sl 31 [(.int .i64), (.int .i64), (.int .i64), (.int .i64), .str, (.int .i64), (.int .i64)]), (.sl 61 [.str, (.int .i64)])]), (false, [(.int .i64)])], [(false, [(.int .i64)])], [], none⟩
noncomputable def c38 : Code := Try.f38.body.getD .skip
theorem b38 : Try.f38.body = some c38 := body_some (by kernel_rfl)
theorem n38 : (Try.f38.name == "runtime.NumGoroutine") = false := by kernel_rfl
def sg38 : List (FuncId × Sig) := [(37, S37), (55, S55), (56, S56), (57, S57), (58, S58)]
def lt38 : List (Nat × LoopSig) := []
theorem k38 : (Code.loops c38).length = 0 := by kernel_rfl
def vt38 : VT :=
  (.need (.t true) (.c (.bin .le (.n 0) (.var 5)))
  (.need (.t true) (.c (.bin .lt (.var 5) (.un .len (.var 2))))
  (.need (.t true) (.pre 37 (.cons (.sel 0 (.var 2) (.var 5)) .nil))
  (.lt (.app 37 (.cons (.sel 0 (.var 2) (.var 5)) .nil) 0) 1
  (.ite (.un .not (.var 6))
   (.ret (.cons (.n 5) .nil))
   (.need (.t true) (.pre 55 (.cons (.var 0) (.cons (.var 1) (.cons (.var 2) (.cons (.var 3) (.cons (.var 4) (.cons (.sel 0 (.var 2) (.var 5)) .nil)))))))
   (.lt (.app 55 (.cons (.var 0) (.cons (.var 1) (.cons (.var 2) (.cons (.var 3) (.cons (.var 4) (.cons (.sel 0 (.var 2) (.var 5)) .nil)))))) 0) 1
   (.ite (.bin .lt (.var 7) (.var 5))
    (.ret (.cons (.n 6) .nil))
    (.need (.t true) (.pre 56 (.cons (.sel 1 (.var 2) (.var 5)) .nil))
    (.lt (.app 56 (.cons (.sel 1 (.var 2) (.var 5)) .nil) 0) 1
    (.ite (.un .not (.bin .eq (.var 8) (.n 0)))
     (.ret (.cons (.var 8) .nil))
     (.need (.t true) (.pre 57 (.cons (.sel 2 (.var 2) (.var 5)) .nil))
     (.lt (.app 57 (.cons (.sel 2 (.var 2) (.var 5)) .nil) 0) 1
     (.need (.var 9) (.pre 57 (.cons (.sel 3 (.var 2) (.var 5)) .nil))
     (.lt (.app 57 (.cons (.sel 3 (.var 2) (.var 5)) .nil) 0) 1
     (.ite (.ite (.ite (.ite (.un .not (.var 9)) (.t true) (.un .not (.var 10))) (.t true) (.bin .lt (.sel 4 (.var 2) (.var 5)) (.n (-1)))) (.t true) (.bin .le (.un .len (.var 4)) (.sel 4 (.var 2) (.var 5))))
      (.ret (.cons (.n 3) .nil))
      (.need (.t true) (.pre 58 (.cons (.sel 5 (.var 2) (.var 5)) .nil))
      (.lt (.app 58 (.cons (.sel 5 (.var 2) (.var 5)) .nil) 0) 1
      (.ret (.cons (.var 11) .nil))))))))))))))))))))
theorem e38 : (fnVT Try.prog (sgOf sg38) (ltOf lt38) S38 Try.f38 c38).slim (S38.ps.map fun p => p.2.length).sum [] = vt38 := by kernel_rfl

/-! ### 60 -/
def S60 : Sig := ⟨[(true, [.str, (.int .i64)]), (false, [(.pt [.str, (.int .i64)])])], [(false, [.bool])], [], none⟩
noncomputable def c60 : Code := Try.f60.body.getD .skip
theorem b60 : Try.f60.body = some c60 := body_some (by kernel_rfl)
theorem n60 : (Try.f60.name == "runtime.NumGoroutine") = false := by kernel_rfl
def sg60 : List (FuncId × Sig) := []
def lt60 : List (Nat × LoopSig) := []
theorem k60 : (Code.loops c60).length = 0 := by kernel_rfl
def vt60 : VT :=
  (.ret (.cons (.bin .seq (.var 0) (.psel 0 (.var 2))) .nil))
theorem e60 : (fnVT Try.prog (sgOf sg60) (ltOf lt60) S60 Try.f60 c60).slim (S60.ps.map fun p => p.2.length).sum [] = vt60 := by kernel_rfl
def T60 : FuncId → List D → List D := tabOf []
def fn60 (ρ : List D) : List D := vt60.val T60 ρ
theorem m60 : Meets Try.prog 60 S60 (fun _ => True) fn60 := meets_easy (sgl := sg60) (Φ := T60) mixed ((fun _ h => nomatch h)) Try.func60 b60 n60 k60 e60 (by kernel_rfl)

/-! ### 75 -/
def S75 : Sig := ⟨[(false, [(.sl 61 [.str, (.int .i64)])]), (false, [.clo])], [(false, [(.int .i64)])], [], none⟩
noncomputable def c75 : Code := Try.f75.body.getD .skip
theorem b75 : Try.f75.body = some c75 := body_some (by kernel_rfl)
theorem n75 : (Try.f75.name == "runtime.NumGoroutine") = false := by kernel_rfl
def sg75 : List (FuncId × Sig) := [(20062, S20062)]
def L75_0 : LoopSig := ⟨17500, [],
   ⟨[(.c (.x (.sl 61 [.str, (.int .i64)]) (.var 0))), (.c (.x .clo (.var 1))), .any, .any, (.c (.x (.int .i64) (.var 2))), .any, .any, (.c (.x (.int .i64) (.var 3))), (.c (.x (.int .i64) (.var 4))), .any, .any, .any, .any, .any, .any, .any, .any, .any, .any],
    []⟩,
   5, [2, 4], [9, 10, 5, 11, 12, 13, 14, 15, 16, 17, 4, 18, 8], [.ret, (.exit 0)], []⟩
def lt75 : List (Nat × LoopSig) := [(2, L75_0)]
theorem k75 : (Code.loops c75).length = 1 := by kernel_rfl
noncomputable def lb75_0 : Code := (Code.loops c75).getD 0 .skip
def rt75_0 : VT :=
  (.ite (.bin .lt (.var 4) (.var 3))
   (.need (.t true) (.c (.bin .le (.n 0) (.var 4)))
   (.need (.t true) (.c (.bin .lt (.var 4) (.un .len (.var 0))))
   (.need (.t true) (.pre 20062 (.cons (.var 1) (.cons (.sel 0 (.var 0) (.var 4)) (.cons (.sel 1 (.var 0) (.var 4)) .nil))))
   (.lt (.app 20062 (.cons (.var 1) (.cons (.sel 0 (.var 0) (.var 4)) (.cons (.sel 1 (.var 0) (.var 4)) .nil))) 0) 1
   (.ite (.var 5)
    (.ret (.cons (.n 0) (.cons (.var 4) (.cons (.var 4) .nil))))
    (.ret (.cons (.n (-1)) (.cons (.var 2) (.cons (.bin (.add .i64) (.var 4) (.n 1)) .nil)))))))))
   (.ret (.cons (.n 1) (.cons (.var 2) (.cons (.var 4) .nil)))))
theorem le75_0 : (loopVT Try.prog (sgOf sg75) (ltOf lt75) L75_0 lb75_0).slim L75_0.nv [] = rt75_0 := by kernel_rfl
theorem lf75_0 : (firstRegion lb75_0).bind (ltOf lt75) = some L75_0 := by kernel_rfl
theorem lk75_0 : (Code.loops lb75_0).length = 0 := by kernel_rfl
def vt75 : VT :=
  (.need (.t true) (.pre 17500 (.cons (.var 0) (.cons (.var 1) (.cons (.n 0) (.cons (.un .len (.var 0)) (.cons (.n 0) .nil))))))
  (.lt (.app 17500 (.cons (.var 0) (.cons (.var 1) (.cons (.n 0) (.cons (.un .len (.var 0)) (.cons (.n 0) .nil))))) 0) 3
  (.ite (.bin .eq (.var 2) (.n 0))
   (.ret (.cons (.var 3) .nil))
   (.ret (.cons (.n (-1)) .nil)))))
theorem e75 : (fnVT Try.prog (sgOf sg75) (ltOf lt75) S75 Try.f75 c75).slim (S75.ps.map fun p => p.2.length).sum [] = vt75 := by kernel_rfl

/-! ### 59 -/
def S59 : Sig := ⟨[(false, [(.sl 61 [.str, (.int .i64)])]), (false, [.clo])], [(false, [.bool])], [], none⟩
noncomputable def c59 : Code := Try.f59.body.getD .skip
theorem b59 : Try.f59.body = some c59 := body_some (by kernel_rfl)
theorem n59 : (Try.f59.name == "runtime.NumGoroutine") = false := by kernel_rfl
def sg59 : List (FuncId × Sig) := [(75, S75)]
def lt59 : List (Nat × LoopSig) := []
theorem k59 : (Code.loops c59).length = 0 := by kernel_rfl
def vt59 : VT :=
  (.need (.t true) (.pre 75 (.cons (.var 0) (.cons (.var 1) .nil)))
  (.lt (.app 75 (.cons (.var 0) (.cons (.var 1) .nil)) 0) 1
  (.ret (.cons (.bin .le (.n 0) (.var 2)) .nil))))
theorem e59 : (fnVT Try.prog (sgOf sg59) (ltOf lt59) S59 Try.f59 c59).slim (S59.ps.map fun p => p.2.length).sum [] = vt59 := by kernel_rfl

/-! ### 76 -/
def S76 : Sig := ⟨[(true, [.str, .bool, (.sl 29 [.str, .str, (.int .i64), (.int .i64), (.int .i64), (.sl 75 [.str, (.int .i64)])]), (.sl 31 [(.int .i64), (.int .i64), (.int .i64), (.int .i64), .str, (.int .i64), (.int .i64)]), (.sl 61 [.str, (.int .i64)])]), (false, [(.int .i64)])], [(false, [(.sl 3 [(.int .i64)])])], [], none⟩
noncomputable def c76 : Code := Try.f76.body.getD .skip
theorem b76 : Try.f76.body = some c76 := body_some (by kernel_rfl)
theorem n76 : (Try.f76.name == "runtime.NumGoroutine") = false := by kernel_rfl
def sg76 : List (FuncId × Sig) := []
def L76_0 : LoopSig := ⟨17600, [(5, none, 3)],
   ⟨[.any, (.c (.x (.int .i64) (.var 0))), (.c (.ptr 0 0)), .any, .any, (.c (.row 1 1)), .any, .any, .any, .any, .any, .any, .any, .any, .any, .any, .any, .any, .any],
    [some ⟨(.t true), (.box 26 [(.x .str (.var 1)), (.x .bool (.var 2)), (.x (.sl 29 [.str, .str, (.int .i64), (.int .i64), (.int .i64), (.sl 75 [.str, (.int .i64)])]) (.var 3)), (.x (.sl 31 [(.int .i64), (.int .i64), (.int .i64), (.int .i64), .str, (.int .i64), (.int .i64)]) (.var 4)), (.x (.sl 61 [.str, (.int .i64)]) (.var 5))] false)⟩, some ⟨(.t true), (.row 3 [(.int .i64)] (.var 6) 1 false)⟩]⟩,
   7, [0, 6], [6, 7, 8, 9, 10, 11, 5, 12, 13, 14, 15, 16, 17, 1], [(.exit 0)], [6]⟩
def lt76 : List (Nat × LoopSig) := [(2, L76_0)]
theorem k76 : (Code.loops c76).length = 1 := by kernel_rfl
noncomputable def lb76_0 : Code := (Code.loops c76).getD 0 .skip
def rt76_0 : VT :=
  (.ite (.bin .le (.n 0) (.var 0))
   (.need (.t true) (.c (.bin .le (.un .len (.bin .cat (.var 6) (.lcons (.cons (.var 0) .nil) .lnil))) (.n 17592186044416)))
   (.need (.t true) (.c (.bin .lt (.var 0) (.un .len (.var 5))))
   (.ret (.cons (.n (-1)) (.cons (.sel 1 (.var 5) (.var 0)) (.cons (.bin .cat (.var 6) (.lcons (.cons (.var 0) .nil) .lnil)) .nil))))))
   (.ret (.cons (.n 0) (.cons (.var 0) (.cons (.var 6) .nil)))))
theorem le76_0 : (loopVT Try.prog (sgOf sg76) (ltOf lt76) L76_0 lb76_0).slim L76_0.nv [] = rt76_0 := by kernel_rfl
theorem lf76_0 : (firstRegion lb76_0).bind (ltOf lt76) = some L76_0 := by kernel_rfl
theorem lk76_0 : (Code.loops lb76_0).length = 0 := by kernel_rfl
def vt76 : VT :=
  (.need (.t true) (.pre 17600 (.cons (.var 5) (.cons (.var 0) (.cons (.var 1) (.cons (.var 2) (.cons (.var 3) (.cons (.var 4) (.cons .lnil .nil))))))))
  (.lt (.app 17600 (.cons (.var 5) (.cons (.var 0) (.cons (.var 1) (.cons (.var 2) (.cons (.var 3) (.cons (.var 4) (.cons .lnil .nil))))))) 0) 3
  (.ret (.cons (.var 8) .nil))))
theorem e76 : (fnVT Try.prog (sgOf sg76) (ltOf lt76) S76 Try.f76 c76).slim (S76.ps.map fun p => p.2.length).sum [] = vt76 := by kernel_rfl

/-! ### 61 -/
def S61 : Sig := ⟨[(true, [.str, .bool, (.sl 29 [.str, .str, (.int .i64), (.int .i64), (.int .i64), (.sl 75 [.str, (.int .i64)])]), (.sl 31 [(.int .i64), (.int .i64), (.int .i64), (.int .i64), .str, (.int .i64), (.int .i64)]), (.sl 61 [.str, (.int .i64)])]), (false, [(.int .i64)])], [(false, [(.int .i64)])], [], none⟩
noncomputable def c61 : Code := Try.f61.body.getD .skip
theorem b61 : Try.f61.body = some c61 := body_some (by kernel_rfl)
theorem n61 : (Try.f61.name == "runtime.NumGoroutine") = false := by kernel_rfl
def sg61 : List (FuncId × Sig) := [(76, S76)]
def lt61 : List (Nat × LoopSig) := []
theorem k61 : (Code.loops c61).length = 0 := by kernel_rfl
def vt61 : VT :=
  (.need (.t true) (.pre 76 (.cons (.var 0) (.cons (.var 1) (.cons (.var 2) (.cons (.var 3) (.cons (.var 4) (.cons (.var 5) .nil)))))))
  (.lt (.app 76 (.cons (.var 0) (.cons (.var 1) (.cons (.var 2) (.cons (.var 3) (.cons (.var 4) (.cons (.var 5) .nil)))))) 0) 1
  (.ret (.cons (.un .len (.var 6)) .nil))))
theorem e61 : (fnVT Try.prog (sgOf sg61) (ltOf lt61) S61 Try.f61 c61).slim (S61.ps.map fun p => p.2.length).sum [] = vt61 := by kernel_rfl

/-! ### 39 -/
def S39 : Sig := ⟨[(true, [.str, .bool, (.sl 29 [.str, .str, (.int .i64), (.int .i64), (.int .i64), (.sl 75 [.str, (.int .i64)])]), (.sl 31 [(.int .i64), (.int .i64), (.int .i64), (.int .i64), .str, (.int .i64), (.int .i64)]), (.sl 61 [.str, (.int .i64)])]), (false, [(.int .i64)])], [(false, [(.int .i64)])], [], none⟩
noncomputable def c39 : Code := Try.f39.body.getD .skip
theorem b39 : Try.f39.body = some c39 := body_some (by kernel_rfl)
theorem n39 : (Try.f39.name == "runtime.NumGoroutine") = false := by kernel_rfl
def sg39 : List (FuncId × Sig) := [(37, S37), (55, S55), (59, S59), (61, S61)]
def lt39 : List (Nat × LoopSig) := []
theorem k39 : (Code.loops c39).length = 0 := by kernel_rfl
def vt39 : VT :=
  (.need (.t true) (.c (.bin .le (.n 0) (.var 5)))
  (.need (.t true) (.c (.bin .lt (.var 5) (.un .len (.var 4))))
  (.need (.t true) (.pre 37 (.cons (.sel 0 (.var 4) (.var 5)) .nil))
  (.lt (.app 37 (.cons (.sel 0 (.var 4) (.var 5)) .nil) 0) 1
  (.ite (.un .not (.var 6))
   (.ret (.cons (.n 5) .nil))
   (.need (.t true) (.pre 55 (.cons (.var 0) (.cons (.var 1) (.cons (.var 2) (.cons (.var 3) (.cons (.var 4) (.cons (.sel 0 (.var 4) (.var 5)) .nil)))))))
   (.lt (.app 55 (.cons (.var 0) (.cons (.var 1) (.cons (.var 2) (.cons (.var 3) (.cons (.var 4) (.cons (.sel 0 (.var 4) (.var 5)) .nil)))))) 0) 1
   (.need (.un .not (.bin .le (.n 0) (.var 7))) (.c (.bin .le (.var 5) (.un .len (.var 4))))
   (.need (.un .not (.bin .le (.n 0) (.var 7))) (.pre 59 (.cons (.sub (.var 4) (.n 0) (.var 5)) (.cons (.clo 60 [(.pt [.str, (.int .i64)])] (.cons (.pk (.cons (.sel 0 (.var 4) (.var 5)) (.cons (.sel 1 (.var 4) (.var 5)) .nil))) .nil)) .nil)))
   (.lt (.app 59 (.cons (.sub (.var 4) (.n 0) (.var 5)) (.cons (.clo 60 [(.pt [.str, (.int .i64)])] (.cons (.pk (.cons (.sel 0 (.var 4) (.var 5)) (.cons (.sel 1 (.var 4) (.var 5)) .nil))) .nil)) .nil)) 0) 1
   (.ite (.ite (.bin .le (.n 0) (.var 7)) (.t true) (.var 8))
    (.ret (.cons (.n 6) .nil))
    (.ite (.ite (.bin .lt (.sel 1 (.var 4) (.var 5)) (.n (-1))) (.t true) (.bin .le (.var 5) (.sel 1 (.var 4) (.var 5))))
     (.ret (.cons (.n 3) .nil))
     (.need (.t true) (.pre 61 (.cons (.var 0) (.cons (.var 1) (.cons (.var 2) (.cons (.var 3) (.cons (.var 4) (.cons (.var 5) .nil)))))))
     (.lt (.app 61 (.cons (.var 0) (.cons (.var 1) (.cons (.var 2) (.cons (.var 3) (.cons (.var 4) (.cons (.var 5) .nil)))))) 0) 1
     (.ite (.bin .lt (.n 6) (.var 9))
      (.ret (.cons (.n 2) .nil))
      (.ret (.cons (.n 0) .nil)))))))))))))))))
theorem e39 : (fnVT Try.prog (sgOf sg39) (ltOf lt39) S39 Try.f39 c39).slim (S39.ps.map fun p => p.2.length).sum [] = vt39 := by kernel_rfl

/-! ### 40 -/
def S40 : Sig := ⟨[(true, [.str, .bool, (.sl 29 [.str, .str, (.int .i64), (.int .i64), (.int .i64), (.sl 75 [.str, (.int .i64)])]), (.sl 31 [(.int .i64), (.int .i64), (.int .i64), (.int .i64), .str, (.int .i64), (.int .i64)]), (.sl 61 [.str, (.int .i64)])]), (true, [(.int .i64), (.int .i64), (.int .i64), (.int .i64), .str, (.int .i64), (.int .i64)])], [(false, [(.int .i64)])], [], none⟩
noncomputable def c40 : Code := Try.f40.body.getD .skip
theorem b40 : Try.f40.body = some c40 := body_some (by kernel_rfl)
theorem n40 : (Try.f40.name == "runtime.NumGoroutine") = false := by kernel_rfl
def sg40 : List (FuncId × Sig) := [(56, S56)]
def lt40 : List (Nat × LoopSig) := []
theorem k40 : (Code.loops c40).length = 0 := by kernel_rfl
def vt40 : VT :=
  (.need (.un .not (.ite (.ite (.bin .lt (.bin .min (.var 5) (.var 6)) (.n 0)) (.t true) (.bin .le (.un .len (.var 2)) (.bin .max (.var 5) (.var 6)))) (.t true) (.bin .lt (.bin .min (.var 7) (.var 8)) (.n (-1))))) (.c (.bin .le (.n 0) (.var 5)))
  (.need (.un .not (.ite (.ite (.bin .lt (.bin .min (.var 5) (.var 6)) (.n 0)) (.t true) (.bin .le (.un .len (.var 2)) (.bin .max (.var 5) (.var 6)))) (.t true) (.bin .lt (.bin .min (.var 7) (.var 8)) (.n (-1))))) (.c (.bin .lt (.var 5) (.un .len (.var 2))))
  (.need (.un .not (.ite (.ite (.ite (.bin .lt (.bin .min (.var 5) (.var 6)) (.n 0)) (.t true) (.bin .le (.un .len (.var 2)) (.bin .max (.var 5) (.var 6)))) (.t true) (.bin .lt (.bin .min (.var 7) (.var 8)) (.n (-1)))) (.t true) (.bin .le (.un .len (.sel 5 (.var 2) (.var 5))) (.var 7)))) (.c (.bin .le (.n 0) (.var 6)))
  (.need (.un .not (.ite (.ite (.ite (.bin .lt (.bin .min (.var 5) (.var 6)) (.n 0)) (.t true) (.bin .le (.un .len (.var 2)) (.bin .max (.var 5) (.var 6)))) (.t true) (.bin .lt (.bin .min (.var 7) (.var 8)) (.n (-1)))) (.t true) (.bin .le (.un .len (.sel 5 (.var 2) (.var 5))) (.var 7)))) (.c (.bin .lt (.var 6) (.un .len (.var 2))))
  (.ite (.ite (.ite (.ite (.ite (.bin .lt (.bin .min (.var 5) (.var 6)) (.n 0)) (.t true) (.bin .le (.un .len (.var 2)) (.bin .max (.var 5) (.var 6)))) (.t true) (.bin .lt (.bin .min (.var 7) (.var 8)) (.n (-1)))) (.t true) (.bin .le (.un .len (.sel 5 (.var 2) (.var 5))) (.var 7))) (.t true) (.bin .le (.un .len (.sel 5 (.var 2) (.var 6))) (.var 8)))
   (.ret (.cons (.n 3) .nil))
   (.need (.t true) (.pre 56 (.cons (.var 9) .nil))
   (.lt (.app 56 (.cons (.var 9) .nil) 0) 1
   (.ite (.un .not (.bin .eq (.var 12) (.n 0)))
    (.ret (.cons (.var 12) .nil))
    (.ite (.ite (.ite (.ite (.bin .lt (.var 10) (.n 1)) (.t true) (.bin .lt (.n 1000) (.var 10))) (.t true) (.bin .lt (.var 11) (.n 1))) (.t true) (.bin .lt (.n 64) (.var 11)))
     (.ret (.cons (.n 7) .nil))
     (.ret (.cons (.n 0) .nil)))))))))))
theorem e40 : (fnVT Try.prog (sgOf sg40) (ltOf lt40) S40 Try.f40 c40).slim (S40.ps.map fun p => p.2.length).sum [] = vt40 := by kernel_rfl

/-! ### 21 -/
def S21 : Sig := ⟨[(true, [.str, .bool, (.sl 29 [.str, .str, (.int .i64), (.int .i64), (.int .i64), (.sl 75 [.str, (.int .i64)])]), (.sl 31 [(.int .i64), (.int .i64), (.int .i64), (.int .i64), .str, (.int .i64), (.int .i64)]), (.sl 61 [.str, (.int .i64)])])], [(false, [(.int .i64)])], [], none⟩
noncomputable def c21 : Code := Try.f21.body.getD .skip
theorem b21 : Try.f21.body = some c21 := body_some (by kernel_rfl)
theorem n21 : (Try.f21.name == "runtime.NumGoroutine") = false := by kernel_rfl
def sg21 : List (FuncId × Sig) := [(37, S37), (38, S38), (39, S39), (40, S40)]
def L21_0 : LoopSig := ⟨12100, [],
   ⟨[.any, (.c (.ptr 0 0)), (.c (.x (.int .i64) (.var 0))), .any, .any, .any, .any, .any, .any, .any, .any, .any, .any, .any, .any, .any, .any, .any, .any, .any, .any, .any, .any, .any, .any, .any, .any, .any, .any, .any, .any, .any, (.c (.x (.int .i64) (.var 1))), (.c (.x (.int .i64) (.var 2))), .any, .any, .any, .any, .any, .any, .any, .any, .any, .any, .any, .any, .any, .any, .any, .any, .any, .any, .any, .any, .any, .any, .any, .any, .any, .any, .any, .any, .any, .any, .any, .any, .any, .any, .any, .any],
    [some ⟨(.t true), (.box 26 [(.x .str (.var 3)), (.x .bool (.var 4)), (.x (.sl 29 [.str, .str, (.int .i64), (.int .i64), (.int .i64), (.sl 75 [.str, (.int .i64)])]) (.var 5)), (.x (.sl 31 [(.int .i64), (.int .i64), (.int .i64), (.int .i64), .str, (.int .i64), (.int .i64)]) (.var 6)), (.x (.sl 61 [.str, (.int .i64)]) (.var 7))] false)⟩]⟩,
   8, [0, 2], [34, 35, 3, 36, 37, 38, 4, 39, 40, 41, 2, 42, 33], [.ret, (.exit 0)], []⟩
def L21_1 : LoopSig := ⟨12101, [],
   ⟨[.any, (.c (.ptr 0 0)), (.c (.x (.int .i64) (.var 0))), .any, .any, .any, .any, .any, .any, .any, .any, .any, .any, .any, .any, .any, .any, .any, .any, .any, .any, .any, .any, .any, .any, .any, .any, .any, .any, .any, .any, .any, .any, .any, .any, .any, .any, .any, .any, .any, .any, .any, .any, .any, .any, (.c (.x (.int .i64) (.var 1))), (.c (.x (.int .i64) (.var 2))), .any, .any, .any, .any, .any, .any, .any, .any, .any, .any, .any, .any, .any, .any, .any, .any, .any, .any, .any, .any, .any, .any, .any],
    [some ⟨(.t true), (.box 26 [(.x .str (.var 3)), (.x .bool (.var 4)), (.x (.sl 29 [.str, .str, (.int .i64), (.int .i64), (.int .i64), (.sl 75 [.str, (.int .i64)])]) (.var 5)), (.x (.sl 31 [(.int .i64), (.int .i64), (.int .i64), (.int .i64), .str, (.int .i64), (.int .i64)]) (.var 6)), (.x (.sl 61 [.str, (.int .i64)]) (.var 7))] false)⟩]⟩,
   8, [0, 2], [47, 48, 5, 49, 50, 51, 6, 52, 53, 54, 2, 55, 46], [.ret, (.exit 2)], []⟩
def L21_2 : LoopSig := ⟨12102, [],
   ⟨[.any, (.c (.ptr 0 0)), (.c (.x (.int .i64) (.var 0))), .any, .any, .any, .any, .any, .any, .any, .any, .any, .any, .any, .any, .any, .any, .any, .any, .any, .any, .any, .any, .any, .any, .any, .any, .any, .any, .any, .any, .any, .any, .any, .any, .any, .any, .any, .any, .any, .any, .any, .any, .any, .any, .any, .any, .any, .any, .any, .any, .any, .any, .any, .any, .any, .any, (.c (.x (.sl 31 [(.int .i64), (.int .i64), (.int .i64), (.int .i64), .str, (.int .i64), (.int .i64)]) (.var 1))), (.c (.x (.int .i64) (.var 2))), (.c (.x (.int .i64) (.var 3))), .any, .any, .any, .any, .any, .any, .any, .any, .any, .any],
    [some ⟨(.t true), (.box 26 [(.x .str (.var 4)), (.x .bool (.var 5)), (.x (.sl 29 [.str, .str, (.int .i64), (.int .i64), (.int .i64), (.sl 75 [.str, (.int .i64)])]) (.var 6)), (.x (.sl 31 [(.int .i64), (.int .i64), (.int .i64), (.int .i64), .str, (.int .i64), (.int .i64)]) (.var 7)), (.x (.sl 61 [.str, (.int .i64)]) (.var 8))] false)⟩]⟩,
   9, [0, 3], [60, 61, 62, 8, 63, 64, 65, 9, 66, 67, 68, 2, 69, 59], [.ret, (.exit 4)], []⟩
def lt21 : List (Nat × LoopSig) := [(6, L21_0), (13, L21_1), (20, L21_2)]
theorem k21 : (Code.loops c21).length = 3 := by kernel_rfl
noncomputable def lb21_0 : Code := (Code.loops c21).getD 0 .skip
noncomputable def lb21_1 : Code := (Code.loops c21).getD 1 .skip
noncomputable def lb21_2 : Code := (Code.loops c21).getD 2 .skip
def rt21_0 : VT :=
  (.ite (.bin .lt (.var 2) (.var 1))
   (.need (.t true) (.pre 38 (.cons (.var 3) (.cons (.var 4) (.cons (.var 5) (.cons (.var 6) (.cons (.var 7) (.cons (.var 2) .nil)))))))
   (.lt (.app 38 (.cons (.var 3) (.cons (.var 4) (.cons (.var 5) (.cons (.var 6) (.cons (.var 7) (.cons (.var 2) .nil)))))) 0) 1
   (.ite (.un .not (.bin .eq (.var 8) (.n 0)))
    (.ret (.cons (.n 0) (.cons (.var 8) (.cons (.var 2) .nil))))
    (.ret (.cons (.n (-1)) (.cons (.var 0) (.cons (.bin (.add .i64) (.var 2) (.n 1)) .nil)))))))
   (.ret (.cons (.n 1) (.cons (.var 0) (.cons (.var 2) .nil)))))
theorem le21_0 : (loopVT Try.prog (sgOf sg21) (ltOf lt21) L21_0 lb21_0).slim L21_0.nv [] = rt21_0 := by kernel_rfl
theorem lf21_0 : (firstRegion lb21_0).bind (ltOf lt21) = some L21_0 := by kernel_rfl
theorem lk21_0 : (Code.loops lb21_0).length = 0 := by kernel_rfl
def rt21_1 : VT :=
  (.ite (.bin .lt (.var 2) (.var 1))
   (.need (.t true) (.pre 39 (.cons (.var 3) (.cons (.var 4) (.cons (.var 5) (.cons (.var 6) (.cons (.var 7) (.cons (.var 2) .nil)))))))
   (.lt (.app 39 (.cons (.var 3) (.cons (.var 4) (.cons (.var 5) (.cons (.var 6) (.cons (.var 7) (.cons (.var 2) .nil)))))) 0) 1
   (.ite (.un .not (.bin .eq (.var 8) (.n 0)))
    (.ret (.cons (.n 0) (.cons (.var 8) (.cons (.var 2) .nil))))
    (.ret (.cons (.n (-1)) (.cons (.var 0) (.cons (.bin (.add .i64) (.var 2) (.n 1)) .nil)))))))
   (.ret (.cons (.n 1) (.cons (.var 0) (.cons (.var 2) .nil)))))
theorem le21_1 : (loopVT Try.prog (sgOf sg21) (ltOf lt21) L21_1 lb21_1).slim L21_1.nv [] = rt21_1 := by kernel_rfl
theorem lf21_1 : (firstRegion lb21_1).bind (ltOf lt21) = some L21_1 := by kernel_rfl
theorem lk21_1 : (Code.loops lb21_1).length = 0 := by kernel_rfl
def rt21_2 : VT :=
  (.ite (.bin .lt (.var 3) (.var 2))
   (.need (.t true) (.c (.bin .le (.n 0) (.var 3)))
   (.need (.t true) (.c (.bin .lt (.var 3) (.un .len (.var 1))))
   (.need (.t true) (.pre 40 (.cons (.var 4) (.cons (.var 5) (.cons (.var 6) (.cons (.var 7) (.cons (.var 8) (.cons (.sel 0 (.var 1) (.var 3)) (.cons (.sel 1 (.var 1) (.var 3)) (.cons (.sel 2 (.var 1) (.var 3)) (.cons (.sel 3 (.var 1) (.var 3)) (.cons (.sel 4 (.var 1) (.var 3)) (.cons (.sel 5 (.var 1) (.var 3)) (.cons (.sel 6 (.var 1) (.var 3)) .nil)))))))))))))
   (.lt (.app 40 (.cons (.var 4) (.cons (.var 5) (.cons (.var 6) (.cons (.var 7) (.cons (.var 8) (.cons (.sel 0 (.var 1) (.var 3)) (.cons (.sel 1 (.var 1) (.var 3)) (.cons (.sel 2 (.var 1) (.var 3)) (.cons (.sel 3 (.var 1) (.var 3)) (.cons (.sel 4 (.var 1) (.var 3)) (.cons (.sel 5 (.var 1) (.var 3)) (.cons (.sel 6 (.var 1) (.var 3)) .nil)))))))))))) 0) 1
   (.ite (.un .not (.bin .eq (.var 9) (.n 0)))
    (.ret (.cons (.n 0) (.cons (.var 9) (.cons (.var 3) .nil))))
    (.ret (.cons (.n (-1)) (.cons (.var 0) (.cons (.bin (.add .i64) (.var 3) (.n 1)) .nil)))))))))
   (.ret (.cons (.n 1) (.cons (.var 0) (.cons (.var 3) .nil)))))
theorem le21_2 : (loopVT Try.prog (sgOf sg21) (ltOf lt21) L21_2 lb21_2).slim L21_2.nv [] = rt21_2 := by kernel_rfl
theorem lf21_2 : (firstRegion lb21_2).bind (ltOf lt21) = some L21_2 := by kernel_rfl
theorem lk21_2 : (Code.loops lb21_2).length = 0 := by kernel_rfl
def vt21 : VT :=
  (.ite (.ite (.ite (.bin .lt (.n 64) (.un .len (.var 2))) (.t true) (.bin .lt (.n 256) (.un .len (.var 3)))) (.t true) (.bin .lt (.n 16) (.un .len (.var 4))))
   (.ret (.cons (.n 2) .nil))
   (.need (.t true) (.pre 37 (.cons (.var 0) .nil))
   (.lt (.app 37 (.cons (.var 0) .nil) 0) 1
   (.ite (.un .not (.var 5))
    (.ret (.cons (.n 5) .nil))
    (.need (.t true) (.pre 12100 (.cons (.n 0) (.cons (.un .len (.var 2)) (.cons (.n 0) (.cons (.var 0) (.cons (.var 1) (.cons (.var 2) (.cons (.var 3) (.cons (.var 4) .nil)))))))))
    (.lt (.app 12100 (.cons (.n 0) (.cons (.un .len (.var 2)) (.cons (.n 0) (.cons (.var 0) (.cons (.var 1) (.cons (.var 2) (.cons (.var 3) (.cons (.var 4) .nil)))))))) 0) 3
    (.ite (.bin .eq (.var 6) (.n 0))
     (.ret (.cons (.var 7) .nil))
     (.need (.t true) (.pre 12101 (.cons (.var 7) (.cons (.un .len (.var 4)) (.cons (.n 0) (.cons (.var 0) (.cons (.var 1) (.cons (.var 2) (.cons (.var 3) (.cons (.var 4) .nil)))))))))
     (.lt (.app 12101 (.cons (.var 7) (.cons (.un .len (.var 4)) (.cons (.n 0) (.cons (.var 0) (.cons (.var 1) (.cons (.var 2) (.cons (.var 3) (.cons (.var 4) .nil)))))))) 0) 3
     (.ite (.bin .eq (.var 9) (.n 0))
      (.ret (.cons (.var 10) .nil))
      (.need (.t true) (.pre 12102 (.cons (.var 10) (.cons (.var 3) (.cons (.un .len (.var 3)) (.cons (.n 0) (.cons (.var 0) (.cons (.var 1) (.cons (.var 2) (.cons (.var 3) (.cons (.var 4) .nil))))))))))
      (.lt (.app 12102 (.cons (.var 10) (.cons (.var 3) (.cons (.un .len (.var 3)) (.cons (.n 0) (.cons (.var 0) (.cons (.var 1) (.cons (.var 2) (.cons (.var 3) (.cons (.var 4) .nil))))))))) 0) 3
      (.ite (.bin .eq (.var 12) (.n 0))
       (.ret (.cons (.var 13) .nil))
       (.ret (.cons (.n 0) .nil)))))))))))))))
theorem e21 : (fnVT Try.prog (sgOf sg21) (ltOf lt21) S21 Try.f21 c21).slim (S21.ps.map fun p => p.2.length).sum [] = vt21 := by kernel_rfl

/-! ### 41 -/
def S41 : Sig := ⟨[(true, [.str, .str, (.int .i64), (.int .i64), (.int .i64), (.sl 75 [.str, (.int .i64)])]), (false, [.bool]), (false, [.bool])], [(false, [.bool])], [], none⟩
noncomputable def c41 : Code := Try.f41.body.getD .skip
theorem b41 : Try.f41.body = some c41 := body_some (by kernel_rfl)
theorem n41 : (Try.f41.name == "runtime.NumGoroutine") = false := by kernel_rfl
def sg41 : List (FuncId × Sig) := []
def lt41 : List (Nat × LoopSig) := []
theorem k41 : (Code.loops c41).length = 0 := by kernel_rfl
def vt41 : VT :=
  (.ret (.cons (.ite (.ite (.ite (.ite (.bin .seq (.var 0) (.str ⟨#[]⟩)) (.bin .eq (.var 4) (.n 0)) (.t false)) (.bin .eq (.un .len (.var 5)) (.n 0)) (.t false)) (.ite (.var 6) (.t true) (.ite (.bin .eq (.var 2) (.n 0)) (.bin .eq (.var 3) (.n 0)) (.t false))) (.t false)) (.ite (.var 7) (.t true) (.bin .seq (.var 1) (.str ⟨#[]⟩))) (.t false)) .nil))
theorem e41 : (fnVT Try.prog (sgOf sg41) (ltOf lt41) S41 Try.f41 c41).slim (S41.ps.map fun p => p.2.length).sum [] = vt41 := by kernel_rfl
def T41 : FuncId → List D → List D := tabOf []
def fn41 (ρ : List D) : List D := vt41.val T41 ρ
theorem m41 : Meets Try.prog 41 S41 (fun _ => True) fn41 := meets_easy (sgl := sg41) (Φ := T41) mixed ((fun _ h => nomatch h)) Try.func41 b41 n41 k41 e41 (by kernel_rfl)

/-! ### 22 -/
def S22 : Sig := ⟨[(true, [(.int .i64), (.int .i64), .str, .str, (.int .i64), (.int .i64), (.int .i64), (.sl 75 [.str, (.int .i64)]), (.int .i64), (.int .i64), (.int .i64), (.int .i64), .str, (.int .i64), (.int .i64)])], [(false, [.bool])], [], none⟩
noncomputable def c22 : Code := Try.f22.body.getD .skip
theorem b22 : Try.f22.body = some c22 := body_some (by kernel_rfl)
theorem n22 : (Try.f22.name == "runtime.NumGoroutine") = false := by kernel_rfl
def sg22 : List (FuncId × Sig) := [(41, S41)]
def lt22 : List (Nat × LoopSig) := []
theorem k22 : (Code.loops c22).length = 0 := by kernel_rfl
def vt22 : VT :=
  (.ite (.bin .eq (.var 0) (.n 1))
   (.ret (.cons (.ite (.bin .eq (.var 1) (.n 0)) (.ite (.bin .eq (.var 8) (.n 0)) (.ite (.bin .eq (.var 9) (.n 0)) (.ite (.bin .eq (.var 10) (.n 0)) (.ite (.bin .eq (.var 11) (.n 0)) (.ite (.bin .seq (.var 12) (.str ⟨#[]⟩)) (.ite (.bin .eq (.var 13) (.n 0)) (.bin .eq (.var 14) (.n 0)) (.t false)) (.t false)) (.t false)) (.t false)) (.t false)) (.t false)) (.t false)) .nil))
   (.ite (.bin .eq (.var 0) (.n 3))
    (.need (.bin .eq (.var 1) (.n 0)) (.pre 41 (.cons (.var 2) (.cons (.var 3) (.cons (.var 4) (.cons (.var 5) (.cons (.var 6) (.cons (.var 7) (.cons (.t false) (.cons (.t false) .nil)))))))))
    (.lt (.app 41 (.cons (.var 2) (.cons (.var 3) (.cons (.var 4) (.cons (.var 5) (.cons (.var 6) (.cons (.var 7) (.cons (.t false) (.cons (.t false) .nil)))))))) 0) 1
    (.ret (.cons (.ite (.bin .eq (.var 1) (.n 0)) (.var 15) (.t false)) .nil))))
    (.ite (.bin .eq (.var 0) (.n 2))
     (.need (.t true) (.pre 41 (.cons (.var 2) (.cons (.var 3) (.cons (.var 4) (.cons (.var 5) (.cons (.var 6) (.cons (.var 7) (.cons (.t false) (.cons (.t false) .nil)))))))))
     (.lt (.app 41 (.cons (.var 2) (.cons (.var 3) (.cons (.var 4) (.cons (.var 5) (.cons (.var 6) (.cons (.var 7) (.cons (.t false) (.cons (.t false) .nil)))))))) 0) 1
     (.ret (.cons (.ite (.var 15) (.ite (.bin .eq (.var 8) (.n 0)) (.ite (.bin .eq (.var 9) (.n 0)) (.ite (.bin .eq (.var 10) (.n 0)) (.ite (.bin .eq (.var 11) (.n 0)) (.ite (.bin .seq (.var 12) (.str ⟨#[]⟩)) (.ite (.bin .eq (.var 13) (.n 0)) (.bin .eq (.var 14) (.n 0)) (.t false)) (.t false)) (.t false)) (.t false)) (.t false)) (.t false)) (.t false)) .nil))))
     (.ite (.bin .eq (.var 0) (.n 4))
      (.need (.t true) (.pre 41 (.cons (.var 2) (.cons (.var 3) (.cons (.var 4) (.cons (.var 5) (.cons (.var 6) (.cons (.var 7) (.cons (.t false) (.cons (.t false) .nil)))))))))
      (.lt (.app 41 (.cons (.var 2) (.cons (.var 3) (.cons (.var 4) (.cons (.var 5) (.cons (.var 6) (.cons (.var 7) (.cons (.t false) (.cons (.t false) .nil)))))))) 0) 1
      (.ret (.cons (.ite (.var 15) (.ite (.bin .eq (.var 8) (.n 0)) (.ite (.bin .eq (.var 9) (.n 0)) (.ite (.bin .eq (.var 10) (.n 0)) (.ite (.bin .eq (.var 11) (.n 0)) (.ite (.bin .seq (.var 12) (.str ⟨#[]⟩)) (.ite (.bin .eq (.var 13) (.n 0)) (.bin .eq (.var 14) (.n 0)) (.t false)) (.t false)) (.t false)) (.t false)) (.t false)) (.t false)) (.t false)) .nil))))
      (.ite (.bin .eq (.var 0) (.n 5))
       (.need (.t true) (.pre 41 (.cons (.var 2) (.cons (.var 3) (.cons (.var 4) (.cons (.var 5) (.cons (.var 6) (.cons (.var 7) (.cons (.t true) (.cons (.t false) .nil)))))))))
       (.lt (.app 41 (.cons (.var 2) (.cons (.var 3) (.cons (.var 4) (.cons (.var 5) (.cons (.var 6) (.cons (.var 7) (.cons (.t true) (.cons (.t false) .nil)))))))) 0) 1
       (.ret (.cons (.ite (.var 15) (.ite (.bin .eq (.var 8) (.n 0)) (.ite (.bin .eq (.var 9) (.n 0)) (.ite (.bin .eq (.var 10) (.n 0)) (.ite (.bin .eq (.var 11) (.n 0)) (.ite (.bin .seq (.var 12) (.str ⟨#[]⟩)) (.ite (.bin .eq (.var 13) (.n 0)) (.bin .eq (.var 14) (.n 0)) (.t false)) (.t false)) (.t false)) (.t false)) (.t false)) (.t false)) (.t false)) .nil))))
       (.ite (.bin .eq (.var 0) (.n 6))
        (.need (.t true) (.pre 41 (.cons (.var 2) (.cons (.var 3) (.cons (.var 4) (.cons (.var 5) (.cons (.var 6) (.cons (.var 7) (.cons (.t false) (.cons (.t true) .nil)))))))))
        (.lt (.app 41 (.cons (.var 2) (.cons (.var 3) (.cons (.var 4) (.cons (.var 5) (.cons (.var 6) (.cons (.var 7) (.cons (.t false) (.cons (.t true) .nil)))))))) 0) 1
        (.ret (.cons (.ite (.var 15) (.ite (.bin .eq (.var 8) (.n 0)) (.ite (.bin .eq (.var 9) (.n 0)) (.ite (.bin .eq (.var 10) (.n 0)) (.ite (.bin .eq (.var 11) (.n 0)) (.ite (.bin .seq (.var 12) (.str ⟨#[]⟩)) (.ite (.bin .eq (.var 13) (.n 0)) (.bin .eq (.var 14) (.n 0)) (.t false)) (.t false)) (.t false)) (.t false)) (.t false)) (.t false)) (.t false)) .nil))))
        (.ret (.cons (.t false) .nil))))))))
theorem e22 : (fnVT Try.prog (sgOf sg22) (ltOf lt22) S22 Try.f22 c22).slim (S22.ps.map fun p => p.2.length).sum [] = vt22 := by kernel_rfl
def T22 : FuncId → List D → List D := tabOf [(41, fn41)]
def fn22 (ρ : List D) : List D := vt22.val T22 ρ
theorem m22 : Meets Try.prog 22 S22 (fun _ => True) fn22 := meets_easy (sgl := sg22) (Φ := T22) mixed (List.forall_mem_cons.2 ⟨m41, (fun _ h => nomatch h)⟩) Try.func22 b22 n22 k22 e22 (by kernel_rfl)

/-! ### 44 -/
def S44 : Sig := ⟨[(false, [(.sl 75 [.str, (.int .i64)])])], [(false, [(.osl 75 [.str, (.int .i64)])])], [], none⟩
noncomputable def c44 : Code := Try.f44.body.getD .skip
theorem b44 : Try.f44.body = some c44 := body_some (by kernel_rfl)
theorem n44 : (Try.f44.name == "runtime.NumGoroutine") = false := by kernel_rfl
/-! ### 24 -/
def S24 : Sig := ⟨[(true, [.str, .str, (.int .i64), (.int .i64), (.int .i64), (.sl 75 [.str, (.int .i64)])])], [(true, [.str, .str, (.int .i64), (.int .i64), (.int .i64), (.sl 75 [.str, (.int .i64)])])], [], none⟩
noncomputable def c24 : Code := Try.f24.body.getD .skip
theorem b24 : Try.f24.body = some c24 := body_some (by kernel_rfl)
theorem n24 : (Try.f24.name == "runtime.NumGoroutine") = false := by kernel_rfl
def sg24 : List (FuncId × Sig) := [(44, S44)]
def lt24 : List (Nat × LoopSig) := []
theorem k24 : (Code.loops c24).length = 0 := by kernel_rfl
def vt24 : VT :=
  (.need (.t true) (.pre 44 (.cons (.var 5) .nil))
  (.lt (.app 44 (.cons (.var 5) .nil) 0) 1
  (.ret (.cons (.var 0) (.cons (.var 1) (.cons (.var 2) (.cons (.var 3) (.cons (.var 4) (.cons (.var 6) .nil)))))))))
theorem e24 : (fnVT Try.prog (sgOf sg24) (ltOf lt24) S24 Try.f24 c24).slim (S24.ps.map fun p => p.2.length).sum [] = vt24 := by kernel_rfl

/-! ### 42 -/
def S42 : Sig := ⟨[(false, [(.sl 31 [(.int .i64), (.int .i64), (.int .i64), (.int .i64), .str, (.int .i64), (.int .i64)])])], [(false, [(.osl 31 [(.int .i64), (.int .i64), (.int .i64), (.int .i64), .str, (.int .i64), (.int .i64)])])], [], none⟩
noncomputable def c42 : Code := Try.f42.body.getD .skip
theorem b42 : Try.f42.body = some c42 := body_some (by kernel_rfl)
theorem n42 : (Try.f42.name == "runtime.NumGoroutine") = false := by kernel_rfl
/-! ### 43 -/
def S43 : Sig := ⟨[(false, [(.sl 61 [.str, (.int .i64)])])], [(false, [(.osl 61 [.str, (.int .i64)])])], [], none⟩
noncomputable def c43 : Code := Try.f43.body.getD .skip
theorem b43 : Try.f43.body = some c43 := body_some (by kernel_rfl)
theorem n43 : (Try.f43.name == "runtime.NumGoroutine") = false := by kernel_rfl
/-! ### 23 -/
def S23 : Sig := ⟨[(true, [.str, .bool, (.sl 29 [.str, .str, (.int .i64), (.int .i64), (.int .i64), (.sl 75 [.str, (.int .i64)])]), (.sl 31 [(.int .i64), (.int .i64), (.int .i64), (.int .i64), .str, (.int .i64), (.int .i64)]), (.sl 61 [.str, (.int .i64)])])], [(true, [.str, .bool, (.osl 29 [.str, .str, (.int .i64), (.int .i64), (.int .i64), (.sl 75 [.str, (.int .i64)])]), (.osl 31 [(.int .i64), (.int .i64), (.int .i64), (.int .i64), .str, (.int .i64), (.int .i64)]), (.osl 61 [.str, (.int .i64)])])], [], none⟩
noncomputable def c23 : Code := Try.f23.body.getD .skip
theorem b23 : Try.f23.body = some c23 := body_some (by kernel_rfl)
theorem n23 : (Try.f23.name == "runtime.NumGoroutine") = false := by kernel_rfl
def sg23 : List (FuncId × Sig) := [(24, S24), (42, S42), (43, S43)]
def L23_0 : LoopSig := ⟨12300, [(1, some 2, 29), (1, some 3, 31), (1, some 4, 61), (2, some 2, 29)],
   ⟨[.any, .any, .any, (.c (.ptr 2 0)), .any, .any, .any, .any, .any, (.c (.x (.sl 29 [.str, .str, (.int .i64), (.int .i64), (.int .i64), (.sl 75 [.str, (.int .i64)])]) (.var 0))), (.c (.x (.int .i64) (.var 1))), (.c (.x (.int .i64) (.var 2))), .any, .any, .any, .any, .any, .any, .any, .any, .any, .any, .any, .any, .any, .any, .any, .any, .any, .any, .any, .any],
    [none, none, some ⟨(.t true), (.box 26 [(.x .str (.var 3)), (.x .bool (.var 4)), (.row 6 1), (.x (.sl 31 [(.int .i64), (.int .i64), (.int .i64), (.int .i64), .str, (.int .i64), (.int .i64)]) (.var 5)), (.x (.sl 61 [.str, (.int .i64)]) (.var 6))] false)⟩, none, none, none, some ⟨(.t true), (.row 29 [.str, .str, (.int .i64), (.int .i64), (.int .i64), (.sl 75 [.str, (.int .i64)])] (.var 7) 1 false)⟩]⟩,
   8, [2, 7], [12, 13, 14, 5, 15, 16, 17, 18, 19, 20, 21, 22, 11], [(.exit 0)], [7]⟩
def lt23 : List (Nat × LoopSig) := [(4, L23_0)]
theorem k23 : (Code.loops c23).length = 1 := by kernel_rfl
noncomputable def lb23_0 : Code := (Code.loops c23).getD 0 .skip
def rt23_0 : VT :=
  (.ite (.bin .lt (.var 2) (.var 1))
   (.need (.t true) (.c (.bin .le (.n 0) (.var 2)))
   (.need (.t true) (.c (.bin .lt (.var 2) (.un .len (.var 0))))
   (.need (.t true) (.pre 24 (.cons (.sel 0 (.var 0) (.var 2)) (.cons (.sel 1 (.var 0) (.var 2)) (.cons (.sel 2 (.var 0) (.var 2)) (.cons (.sel 3 (.var 0) (.var 2)) (.cons (.sel 4 (.var 0) (.var 2)) (.cons (.sel 5 (.var 0) (.var 2)) .nil)))))))
   (.lt (.app 24 (.cons (.sel 0 (.var 0) (.var 2)) (.cons (.sel 1 (.var 0) (.var 2)) (.cons (.sel 2 (.var 0) (.var 2)) (.cons (.sel 3 (.var 0) (.var 2)) (.cons (.sel 4 (.var 0) (.var 2)) (.cons (.sel 5 (.var 0) (.var 2)) .nil)))))) 0) 6
   (.need (.t true) (.c (.bin .le (.un .len (.bin .cat (.var 7) (.lcons (.cons (.var 8) (.cons (.var 9) (.cons (.var 10) (.cons (.var 11) (.cons (.var 12) (.cons (.var 13) .nil)))))) .lnil))) (.n 1759218604441)))
   (.ret (.cons (.n (-1)) (.cons (.bin (.add .i64) (.var 2) (.n 1)) (.cons (.bin .cat (.var 7) (.lcons (.cons (.var 8) (.cons (.var 9) (.cons (.var 10) (.cons (.var 11) (.cons (.var 12) (.cons (.var 13) .nil)))))) .lnil)) .nil)))))))))
   (.ret (.cons (.n 0) (.cons (.var 2) (.cons (.var 7) .nil)))))
theorem le23_0 : (loopVT Try.prog (sgOf sg23) (ltOf lt23) L23_0 lb23_0).slim L23_0.nv [] = rt23_0 := by kernel_rfl
theorem lf23_0 : (firstRegion lb23_0).bind (ltOf lt23) = some L23_0 := by kernel_rfl
theorem lk23_0 : (Code.loops lb23_0).length = 0 := by kernel_rfl
def vt23 : VT :=
  (.need (.t true) (.pre 12300 (.cons (.var 2) (.cons (.un .len (.var 2)) (.cons (.n 0) (.cons (.var 0) (.cons (.var 1) (.cons (.var 3) (.cons (.var 4) (.cons .lnil .nil)))))))))
  (.lt (.app 12300 (.cons (.var 2) (.cons (.un .len (.var 2)) (.cons (.n 0) (.cons (.var 0) (.cons (.var 1) (.cons (.var 3) (.cons (.var 4) (.cons .lnil .nil)))))))) 0) 3
  (.need (.t true) (.pre 42 (.cons (.var 3) .nil))
  (.lt (.app 42 (.cons (.var 3) .nil) 0) 1
  (.need (.t true) (.pre 43 (.cons (.var 4) .nil))
  (.lt (.app 43 (.cons (.var 4) .nil) 0) 1
  (.ret (.cons (.var 0) (.cons (.var 1) (.cons (.var 7) (.cons (.var 8) (.cons (.var 9) .nil))))))))))))
theorem e23 : (fnVT Try.prog (sgOf sg23) (ltOf lt23) S23 Try.f23 c23).slim (S23.ps.map fun p => p.2.length).sum [] = vt23 := by kernel_rfl

/-! ### 25 -/
def S25 : Sig := ⟨[(false, [(.osl 29 [.str, .str, (.int .i64), (.int .i64), (.int .i64), (.sl 75 [.str, (.int .i64)])])]), (false, [(.int .i64)]), (false, [(.int .i64)])], [(false, [(.sl 29 [.str, .str, (.int .i64), (.int .i64), (.int .i64), (.sl 75 [.str, (.int .i64)])])])], [], none⟩
noncomputable def c25 : Code := Try.f25.body.getD .skip
theorem b25 : Try.f25.body = some c25 := body_some (by kernel_rfl)
theorem n25 : (Try.f25.name == "runtime.NumGoroutine") = false := by kernel_rfl
/-! ### 33 -/
def S33 : Sig := ⟨[(true, [(.int .i64), (.int .i64), (.int .i64), (.int .i64), .str, (.int .i64), (.int .i64)]), (false, [(.int .i64)])], [(false, [.bool])], [], none⟩
noncomputable def c33 : Code := Try.f33.body.getD .skip
theorem b33 : Try.f33.body = some c33 := body_some (by kernel_rfl)
theorem n33 : (Try.f33.name == "runtime.NumGoroutine") = false := by kernel_rfl
def sg33 : List (FuncId × Sig) := []
def lt33 : List (Nat × LoopSig) := []
theorem k33 : (Code.loops c33).length = 0 := by kernel_rfl
def vt33 : VT :=
  (.ret (.cons (.ite (.bin .eq (.var 0) (.var 7)) (.t true) (.bin .eq (.var 1) (.var 7))) .nil))
theorem e33 : (fnVT Try.prog (sgOf sg33) (ltOf lt33) S33 Try.f33 c33).slim (S33.ps.map fun p => p.2.length).sum [] = vt33 := by kernel_rfl
def T33 : FuncId → List D → List D := tabOf []
def fn33 (ρ : List D) : List D := vt33.val T33 ρ
theorem m33 : Meets Try.prog 33 S33 (fun _ => True) fn33 := meets_easy (sgl := sg33) (Φ := T33) mixed ((fun _ h => nomatch h)) Try.func33 b33 n33 k33 e33 (by kernel_rfl)

/-! ### 26 -/
def S26 : Sig := ⟨[(false, [(.sl 31 [(.int .i64), (.int .i64), (.int .i64), (.int .i64), .str, (.int .i64), (.int .i64)])]), (false, [(.int .i64)])], [(false, [(.sl 31 [(.int .i64), (.int .i64), (.int .i64), (.int .i64), .str, (.int .i64), (.int .i64)])])], [], none⟩
noncomputable def c26 : Code := Try.f26.body.getD .skip
theorem b26 : Try.f26.body = some c26 := body_some (by kernel_rfl)
theorem n26 : (Try.f26.name == "runtime.NumGoroutine") = false := by kernel_rfl
def sg26 : List (FuncId × Sig) := [(33, S33)]
def L26_0 : LoopSig := ⟨12600, [(5, none, 31)],
   ⟨[.any, (.c (.x (.int .i64) (.var 0))), .any, .any, .any, (.c (.row 0 1)), .any, .any, (.c (.x (.sl 31 [(.int .i64), (.int .i64), (.int .i64), (.int .i64), .str, (.int .i64), (.int .i64)]) (.var 1))), (.c (.x (.int .i64) (.var 2))), (.c (.x (.int .i64) (.var 3))), .any, .any, .any, .any, .any, .any, .any, .any, .any, .any, .any, .any, .any, .any, .any, .any, .any, .any, .any, .any, .any, .any, .any, .any, .any, .any, .any, .any],
    [some ⟨(.t true), (.row 31 [(.int .i64), (.int .i64), (.int .i64), (.int .i64), .str, (.int .i64), (.int .i64)] (.var 4) 1 false)⟩]⟩,
   5, [3, 4], [11, 12, 13, 7, 14, 15, 16, 17, 18, 19, 20, 21, 22, 23, 24, 25, 26, 27, 28, 29, 30, 31, 32, 33, 34, 35, 36, 5, 37, 10], [(.exit 0)], [4]⟩
def lt26 : List (Nat × LoopSig) := [(3, L26_0)]
theorem k26 : (Code.loops c26).length = 1 := by kernel_rfl
noncomputable def lb26_0 : Code := (Code.loops c26).getD 0 .skip
def rt26_0 : VT :=
  (.ite (.bin .lt (.var 3) (.var 2))
   (.need (.t true) (.c (.bin .le (.n 0) (.var 3)))
   (.need (.t true) (.c (.bin .lt (.var 3) (.un .len (.var 1))))
   (.need (.t true) (.pre 33 (.cons (.sel 0 (.var 1) (.var 3)) (.cons (.sel 1 (.var 1) (.var 3)) (.cons (.sel 2 (.var 1) (.var 3)) (.cons (.sel 3 (.var 1) (.var 3)) (.cons (.sel 4 (.var 1) (.var 3)) (.cons (.sel 5 (.var 1) (.var 3)) (.cons (.sel 6 (.var 1) (.var 3)) (.cons (.var 0) .nil)))))))))
   (.lt (.app 33 (.cons (.sel 0 (.var 1) (.var 3)) (.cons (.sel 1 (.var 1) (.var 3)) (.cons (.sel 2 (.var 1) (.var 3)) (.cons (.sel 3 (.var 1) (.var 3)) (.cons (.sel 4 (.var 1) (.var 3)) (.cons (.sel 5 (.var 1) (.var 3)) (.cons (.sel 6 (.var 1) (.var 3)) (.cons (.var 0) .nil)))))))) 0) 1
   (.ite (.var 5)
    (.ret (.cons (.n (-1)) (.cons (.bin (.add .i64) (.var 3) (.n 1)) (.cons (.var 4) .nil))))
    (.ite (.bin .lt (.var 0) (.sel 0 (.var 1) (.var 3)))
     (.ite (.bin .lt (.var 0) (.sel 1 (.var 1) (.var 3)))
      (.need (.t true) (.c (.bin .le (.un .len (.bin .cat (.var 4) (.lcons (.cons (.bin (.sub .i64) (.sel 0 (.var 1) (.var 3)) (.n 1)) (.cons (.bin (.sub .i64) (.sel 1 (.var 1) (.var 3)) (.n 1)) (.cons (.sel 2 (.var 1) (.var 3)) (.cons (.sel 3 (.var 1) (.var 3)) (.cons (.sel 4 (.var 1) (.var 3)) (.cons (.sel 5 (.var 1) (.var 3)) (.cons (.sel 6 (.var 1) (.var 3)) .nil))))))) .lnil))) (.n 2199023255552)))
      (.ret (.cons (.n (-1)) (.cons (.bin (.add .i64) (.var 3) (.n 1)) (.cons (.bin .cat (.var 4) (.lcons (.cons (.bin (.sub .i64) (.sel 0 (.var 1) (.var 3)) (.n 1)) (.cons (.bin (.sub .i64) (.sel 1 (.var 1) (.var 3)) (.n 1)) (.cons (.sel 2 (.var 1) (.var 3)) (.cons (.sel 3 (.var 1) (.var 3)) (.cons (.sel 4 (.var 1) (.var 3)) (.cons (.sel 5 (.var 1) (.var 3)) (.cons (.sel 6 (.var 1) (.var 3)) .nil))))))) .lnil)) .nil)))))
      (.need (.t true) (.c (.bin .le (.un .len (.bin .cat (.var 4) (.lcons (.cons (.bin (.sub .i64) (.sel 0 (.var 1) (.var 3)) (.n 1)) (.cons (.sel 1 (.var 1) (.var 3)) (.cons (.sel 2 (.var 1) (.var 3)) (.cons (.sel 3 (.var 1) (.var 3)) (.cons (.sel 4 (.var 1) (.var 3)) (.cons (.sel 5 (.var 1) (.var 3)) (.cons (.sel 6 (.var 1) (.var 3)) .nil))))))) .lnil))) (.n 2199023255552)))
      (.ret (.cons (.n (-1)) (.cons (.bin (.add .i64) (.var 3) (.n 1)) (.cons (.bin .cat (.var 4) (.lcons (.cons (.bin (.sub .i64) (.sel 0 (.var 1) (.var 3)) (.n 1)) (.cons (.sel 1 (.var 1) (.var 3)) (.cons (.sel 2 (.var 1) (.var 3)) (.cons (.sel 3 (.var 1) (.var 3)) (.cons (.sel 4 (.var 1) (.var 3)) (.cons (.sel 5 (.var 1) (.var 3)) (.cons (.sel 6 (.var 1) (.var 3)) .nil))))))) .lnil)) .nil))))))
     (.ite (.bin .lt (.var 0) (.sel 1 (.var 1) (.var 3)))
      (.need (.t true) (.c (.bin .le (.un .len (.bin .cat (.var 4) (.lcons (.cons (.sel 0 (.var 1) (.var 3)) (.cons (.bin (.sub .i64) (.sel 1 (.var 1) (.var 3)) (.n 1)) (.cons (.sel 2 (.var 1) (.var 3)) (.cons (.sel 3 (.var 1) (.var 3)) (.cons (.sel 4 (.var 1) (.var 3)) (.cons (.sel 5 (.var 1) (.var 3)) (.cons (.sel 6 (.var 1) (.var 3)) .nil))))))) .lnil))) (.n 2199023255552)))
      (.ret (.cons (.n (-1)) (.cons (.bin (.add .i64) (.var 3) (.n 1)) (.cons (.bin .cat (.var 4) (.lcons (.cons (.sel 0 (.var 1) (.var 3)) (.cons (.bin (.sub .i64) (.sel 1 (.var 1) (.var 3)) (.n 1)) (.cons (.sel 2 (.var 1) (.var 3)) (.cons (.sel 3 (.var 1) (.var 3)) (.cons (.sel 4 (.var 1) (.var 3)) (.cons (.sel 5 (.var 1) (.var 3)) (.cons (.sel 6 (.var 1) (.var 3)) .nil))))))) .lnil)) .nil)))))
      (.need (.t true) (.c (.bin .le (.un .len (.bin .cat (.var 4) (.lcons (.cons (.sel 0 (.var 1) (.var 3)) (.cons (.sel 1 (.var 1) (.var 3)) (.cons (.sel 2 (.var 1) (.var 3)) (.cons (.sel 3 (.var 1) (.var 3)) (.cons (.sel 4 (.var 1) (.var 3)) (.cons (.sel 5 (.var 1) (.var 3)) (.cons (.sel 6 (.var 1) (.var 3)) .nil))))))) .lnil))) (.n 2199023255552)))
      (.ret (.cons (.n (-1)) (.cons (.bin (.add .i64) (.var 3) (.n 1)) (.cons (.bin .cat (.var 4) (.lcons (.cons (.sel 0 (.var 1) (.var 3)) (.cons (.sel 1 (.var 1) (.var 3)) (.cons (.sel 2 (.var 1) (.var 3)) (.cons (.sel 3 (.var 1) (.var 3)) (.cons (.sel 4 (.var 1) (.var 3)) (.cons (.sel 5 (.var 1) (.var 3)) (.cons (.sel 6 (.var 1) (.var 3)) .nil))))))) .lnil)) .nil))))))))))))
   (.ret (.cons (.n 0) (.cons (.var 3) (.cons (.var 4) .nil)))))
theorem le26_0 : (loopVT Try.prog (sgOf sg26) (ltOf lt26) L26_0 lb26_0).slim L26_0.nv [] = rt26_0 := by kernel_rfl
theorem lf26_0 : (firstRegion lb26_0).bind (ltOf lt26) = some L26_0 := by kernel_rfl
theorem lk26_0 : (Code.loops lb26_0).length = 0 := by kernel_rfl
def vt26 : VT :=
  (.need (.t true) (.pre 12600 (.cons (.var 1) (.cons (.var 0) (.cons (.un .len (.var 0)) (.cons (.n 0) (.cons .lnil .nil))))))
  (.lt (.app 12600 (.cons (.var 1) (.cons (.var 0) (.cons (.un .len (.var 0)) (.cons (.n 0) (.cons .lnil .nil))))) 0) 3
  (.ret (.cons (.var 4) .nil))))
theorem e26 : (fnVT Try.prog (sgOf sg26) (ltOf lt26) S26 Try.f26 c26).slim (S26.ps.map fun p => p.2.length).sum [] = vt26 := by kernel_rfl

/-! ### 27 -/
def S27 : Sig := ⟨[(false, [(.osl 31 [(.int .i64), (.int .i64), (.int .i64), (.int .i64), .str, (.int .i64), (.int .i64)])]), (false, [(.int .i64)]), (false, [(.int .i64)])], [(false, [(.sl 31 [(.int .i64), (.int .i64), (.int .i64), (.int .i64), .str, (.int .i64), (.int .i64)])])], [], none⟩
noncomputable def c27 : Code := Try.f27.body.getD .skip
theorem b27 : Try.f27.body = some c27 := body_some (by kernel_rfl)
theorem n27 : (Try.f27.name == "runtime.NumGoroutine") = false := by kernel_rfl
/-! ### 10 -/
def S10 : Sig := ⟨[(true, [.str, .bool, (.sl 29 [.str, .str, (.int .i64), (.int .i64), (.int .i64), (.sl 75 [.str, (.int .i64)])]), (.sl 31 [(.int .i64), (.int .i64), (.int .i64), (.int .i64), .str, (.int .i64), (.int .i64)]), (.sl 61 [.str, (.int .i64)])]), (true, [(.int .i64), (.int .i64), .str, .str, (.int .i64), (.int .i64), (.int .i64), (.sl 75 [.str, (.int .i64)]), (.int .i64), (.int .i64), (.int .i64), (.int .i64), .str, (.int .i64), (.int .i64)])], [(true, [.str, .bool, (.sl 29 [.str, .str, (.int .i64), (.int .i64), (.int .i64), (.sl 75 [.str, (.int .i64)])]), (.sl 31 [(.int .i64), (.int .i64), (.int .i64), (.int .i64), .str, (.int .i64), (.int .i64)]), (.sl 61 [.str, (.int .i64)])]), (false, [(.int .i64)])], [], none⟩
noncomputable def c10 : Code := Try.f10.body.getD .skip
theorem b10 : Try.f10.body = some c10 := body_some (by kernel_rfl)
theorem n10 : (Try.f10.name == "runtime.NumGoroutine") = false := by kernel_rfl
def sg10 : List (FuncId × Sig) := [(21, S21), (22, S22), (23, S23), (24, S24), (25, S25), (26, S26), (27, S27)]
def lt10 : List (Nat × LoopSig) := []
theorem k10 : (Code.loops c10).length = 0 := by kernel_rfl
def vt10 : VT :=
  (.need (.t true) (.pre 21 (.cons (.var 0) (.cons (.var 1) (.cons (.var 2) (.cons (.var 3) (.cons (.var 4) .nil))))))
  (.lt (.app 21 (.cons (.var 0) (.cons (.var 1) (.cons (.var 2) (.cons (.var 3) (.cons (.var 4) .nil))))) 0) 1
  (.need (.bin .eq (.var 20) (.n 0)) (.pre 22 (.cons (.var 5) (.cons (.var 6) (.cons (.var 7) (.cons (.var 8) (.cons (.var 9) (.cons (.var 10) (.cons (.var 11) (.cons (.var 12) (.cons (.var 13) (.cons (.var 14) (.cons (.var 15) (.cons (.var 16) (.cons (.var 17) (.cons (.var 18) (.cons (.var 19) .nil))))))))))))))))
  (.lt (.app 22 (.cons (.var 5) (.cons (.var 6) (.cons (.var 7) (.cons (.var 8) (.cons (.var 9) (.cons (.var 10) (.cons (.var 11) (.cons (.var 12) (.cons (.var 13) (.cons (.var 14) (.cons (.var 15) (.cons (.var 16) (.cons (.var 17) (.cons (.var 18) (.cons (.var 19) .nil))))))))))))))) 0) 1
  (.ite (.ite (.un .not (.bin .eq (.var 20) (.n 0))) (.t true) (.un .not (.var 21)))
   (.ret (.cons (.str ⟨#[]⟩) (.cons (.t false) (.cons .lnil (.cons .lnil (.cons .lnil (.cons (.n 1) .nil)))))))
   (.ite (.bin .eq (.var 5) (.n 4))
    (.ite (.ite (.bin .lt (.var 6) (.n 0)) (.t true) (.bin .le (.un .len (.var 3)) (.var 6)))
     (.ret (.cons (.str ⟨#[]⟩) (.cons (.t false) (.cons .lnil (.cons .lnil (.cons .lnil (.cons (.n 3) .nil)))))))
     (.need (.t true) (.pre 23 (.cons (.var 0) (.cons (.var 1) (.cons (.var 2) (.cons (.var 3) (.cons (.var 4) .nil))))))
     (.lt (.app 23 (.cons (.var 0) (.cons (.var 1) (.cons (.var 2) (.cons (.var 3) (.cons (.var 4) .nil))))) 0) 5
     (.need (.t true) (.pre 27 (.cons (.var 25) (.cons (.var 6) (.cons (.bin (.add .i64) (.var 6) (.n 1)) .nil))))
     (.lt (.app 27 (.cons (.var 25) (.cons (.var 6) (.cons (.bin (.add .i64) (.var 6) (.n 1)) .nil))) 0) 1
     (.need (.t true) (.pre 21 (.cons (.var 22) (.cons (.var 23) (.cons (.var 24) (.cons (.var 27) (.cons (.var 26) .nil))))))
     (.lt (.app 21 (.cons (.var 22) (.cons (.var 23) (.cons (.var 24) (.cons (.var 27) (.cons (.var 26) .nil))))) 0) 1
     (.ite (.un .not (.bin .eq (.var 28) (.n 0)))
      (.ret (.cons (.str ⟨#[]⟩) (.cons (.t false) (.cons .lnil (.cons .lnil (.cons .lnil (.cons (.var 28) .nil)))))))
      (.ret (.cons (.var 22) (.cons (.var 23) (.cons (.var 24) (.cons (.var 27) (.cons (.var 26) (.cons (.n 0) .nil)))))))))))))))
    (.ite (.bin .eq (.var 5) (.n 1))
     (.ite (.ite (.bin .lt (.var 6) (.n 0)) (.t true) (.bin .le (.n 1) (.var 6)))
      (.ret (.cons (.str ⟨#[]⟩) (.cons (.t false) (.cons .lnil (.cons .lnil (.cons .lnil (.cons (.n 3) .nil)))))))
      (.need (.t true) (.pre 23 (.cons (.var 0) (.cons (.var 1) (.cons (.var 2) (.cons (.var 3) (.cons (.var 4) .nil))))))
      (.lt (.app 23 (.cons (.var 0) (.cons (.var 1) (.cons (.var 2) (.cons (.var 3) (.cons (.var 4) .nil))))) 0) 5
      (.need (.t true) (.pre 24 (.cons (.var 7) (.cons (.var 8) (.cons (.var 9) (.cons (.var 10) (.cons (.var 11) (.cons (.var 12) .nil)))))))
      (.lt (.app 24 (.cons (.var 7) (.cons (.var 8) (.cons (.var 9) (.cons (.var 10) (.cons (.var 11) (.cons (.var 12) .nil)))))) 0) 6
      (.need (.t true) (.c (.bin .le (.un .len (.bin .cat (.var 24) (.lcons (.cons (.var 27) (.cons (.var 28) (.cons (.var 29) (.cons (.var 30) (.cons (.var 31) (.cons (.var 32) .nil)))))) .lnil))) (.n 1759218604441)))
      (.need (.t true) (.pre 21 (.cons (.var 22) (.cons (.var 23) (.cons (.bin .cat (.var 24) (.lcons (.cons (.var 27) (.cons (.var 28) (.cons (.var 29) (.cons (.var 30) (.cons (.var 31) (.cons (.var 32) .nil)))))) .lnil)) (.cons (.var 25) (.cons (.var 26) .nil))))))
      (.lt (.app 21 (.cons (.var 22) (.cons (.var 23) (.cons (.bin .cat (.var 24) (.lcons (.cons (.var 27) (.cons (.var 28) (.cons (.var 29) (.cons (.var 30) (.cons (.var 31) (.cons (.var 32) .nil)))))) .lnil)) (.cons (.var 25) (.cons (.var 26) .nil))))) 0) 1
      (.ite (.un .not (.bin .eq (.var 33) (.n 0)))
       (.ret (.cons (.str ⟨#[]⟩) (.cons (.t false) (.cons .lnil (.cons .lnil (.cons .lnil (.cons (.var 33) .nil)))))))
       (.ret (.cons (.var 22) (.cons (.var 23) (.cons (.bin .cat (.var 24) (.lcons (.cons (.var 27) (.cons (.var 28) (.cons (.var 29) (.cons (.var 30) (.cons (.var 31) (.cons (.var 32) .nil)))))) .lnil)) (.cons (.var 25) (.cons (.var 26) (.cons (.n 0) .nil))))))))))))))))
     (.ite (.bin .eq (.var 5) (.n 3))
      (.ite (.ite (.bin .lt (.var 6) (.n 0)) (.t true) (.bin .le (.n 1) (.var 6)))
       (.ret (.cons (.str ⟨#[]⟩) (.cons (.t false) (.cons .lnil (.cons .lnil (.cons .lnil (.cons (.n 3) .nil)))))))
       (.need (.t true) (.pre 23 (.cons (.var 0) (.cons (.var 1) (.cons (.var 2) (.cons (.var 3) (.cons (.var 4) .nil))))))
       (.lt (.app 23 (.cons (.var 0) (.cons (.var 1) (.cons (.var 2) (.cons (.var 3) (.cons (.var 4) .nil))))) 0) 5
       (.need (.t true) (.c (.bin .le (.un .len (.bin .cat (.var 25) (.lcons (.cons (.var 13) (.cons (.var 14) (.cons (.var 15) (.cons (.var 16) (.cons (.var 17) (.cons (.var 18) (.cons (.var 19) .nil))))))) .lnil))) (.n 2199023255552)))
       (.need (.t true) (.pre 21 (.cons (.var 22) (.cons (.var 23) (.cons (.var 24) (.cons (.bin .cat (.var 25) (.lcons (.cons (.var 13) (.cons (.var 14) (.cons (.var 15) (.cons (.var 16) (.cons (.var 17) (.cons (.var 18) (.cons (.var 19) .nil))))))) .lnil)) (.cons (.var 26) .nil))))))
       (.lt (.app 21 (.cons (.var 22) (.cons (.var 23) (.cons (.var 24) (.cons (.bin .cat (.var 25) (.lcons (.cons (.var 13) (.cons (.var 14) (.cons (.var 15) (.cons (.var 16) (.cons (.var 17) (.cons (.var 18) (.cons (.var 19) .nil))))))) .lnil)) (.cons (.var 26) .nil))))) 0) 1
       (.ite (.un .not (.bin .eq (.var 27) (.n 0)))
        (.ret (.cons (.str ⟨#[]⟩) (.cons (.t false) (.cons .lnil (.cons .lnil (.cons .lnil (.cons (.var 27) .nil)))))))
        (.ret (.cons (.var 22) (.cons (.var 23) (.cons (.var 24) (.cons (.bin .cat (.var 25) (.lcons (.cons (.var 13) (.cons (.var 14) (.cons (.var 15) (.cons (.var 16) (.cons (.var 17) (.cons (.var 18) (.cons (.var 19) .nil))))))) .lnil)) (.cons (.var 26) (.cons (.n 0) .nil))))))))))))))
      (.ite (.ite (.bin .lt (.var 6) (.n 0)) (.t true) (.bin .le (.un .len (.var 2)) (.var 6)))
       (.ret (.cons (.str ⟨#[]⟩) (.cons (.t false) (.cons .lnil (.cons .lnil (.cons .lnil (.cons (.n 3) .nil)))))))
       (.need (.t true) (.pre 23 (.cons (.var 0) (.cons (.var 1) (.cons (.var 2) (.cons (.var 3) (.cons (.var 4) .nil))))))
       (.lt (.app 23 (.cons (.var 0) (.cons (.var 1) (.cons (.var 2) (.cons (.var 3) (.cons (.var 4) .nil))))) 0) 5
       (.ite (.bin .eq (.var 5) (.n 2))
        (.need (.t true) (.pre 25 (.cons (.var 24) (.cons (.var 6) (.cons (.bin (.add .i64) (.var 6) (.n 1)) .nil))))
        (.lt (.app 25 (.cons (.var 24) (.cons (.var 6) (.cons (.bin (.add .i64) (.var 6) (.n 1)) .nil))) 0) 1
        (.need (.t true) (.pre 26 (.cons (.var 25) (.cons (.var 6) .nil)))
        (.lt (.app 26 (.cons (.var 25) (.cons (.var 6) .nil)) 0) 1
        (.need (.t true) (.pre 21 (.cons (.var 22) (.cons (.var 23) (.cons (.var 27) (.cons (.var 28) (.cons (.var 26) .nil))))))
        (.lt (.app 21 (.cons (.var 22) (.cons (.var 23) (.cons (.var 27) (.cons (.var 28) (.cons (.var 26) .nil))))) 0) 1
        (.ite (.un .not (.bin .eq (.var 29) (.n 0)))
         (.ret (.cons (.str ⟨#[]⟩) (.cons (.t false) (.cons .lnil (.cons .lnil (.cons .lnil (.cons (.var 29) .nil)))))))
         (.ret (.cons (.var 22) (.cons (.var 23) (.cons (.var 27) (.cons (.var 28) (.cons (.var 26) (.cons (.n 0) .nil))))))))))))))
        (.ite (.bin .eq (.var 5) (.n 5))
         (.need (.t true) (.c (.bin .le (.n 0) (.var 6)))
         (.need (.t true) (.c (.bin .lt (.var 6) (.un .len (.var 24))))
         (.need (.t true) (.c (.bin .lt (.var 6) (.un .len (.upd 2 (.var 24) (.var 6) (.cons (.var 9) .nil)))))
         (.need (.t true) (.pre 21 (.cons (.var 22) (.cons (.var 23) (.cons (.upd 3 (.upd 2 (.var 24) (.var 6) (.cons (.var 9) .nil)) (.var 6) (.cons (.var 10) .nil)) (.cons (.var 25) (.cons (.var 26) .nil))))))
         (.lt (.app 21 (.cons (.var 22) (.cons (.var 23) (.cons (.upd 3 (.upd 2 (.var 24) (.var 6) (.cons (.var 9) .nil)) (.var 6) (.cons (.var 10) .nil)) (.cons (.var 25) (.cons (.var 26) .nil))))) 0) 1
         (.ite (.un .not (.bin .eq (.var 27) (.n 0)))
          (.ret (.cons (.str ⟨#[]⟩) (.cons (.t false) (.cons .lnil (.cons .lnil (.cons .lnil (.cons (.var 27) .nil)))))))
          (.ret (.cons (.var 22) (.cons (.var 23) (.cons (.upd 3 (.upd 2 (.var 24) (.var 6) (.cons (.var 9) .nil)) (.var 6) (.cons (.var 10) .nil)) (.cons (.var 25) (.cons (.var 26) (.cons (.n 0) .nil)))))))))))))
         (.ite (.bin .eq (.var 5) (.n 6))
          (.need (.t true) (.c (.bin .le (.n 0) (.var 6)))
          (.need (.t true) (.c (.bin .lt (.var 6) (.un .len (.var 24))))
          (.need (.t true) (.pre 21 (.cons (.var 22) (.cons (.var 23) (.cons (.upd 1 (.var 24) (.var 6) (.cons (.var 8) .nil)) (.cons (.var 25) (.cons (.var 26) .nil))))))
          (.lt (.app 21 (.cons (.var 22) (.cons (.var 23) (.cons (.upd 1 (.var 24) (.var 6) (.cons (.var 8) .nil)) (.cons (.var 25) (.cons (.var 26) .nil))))) 0) 1
          (.ite (.un .not (.bin .eq (.var 27) (.n 0)))
           (.ret (.cons (.str ⟨#[]⟩) (.cons (.t false) (.cons .lnil (.cons .lnil (.cons .lnil (.cons (.var 27) .nil)))))))
           (.ret (.cons (.var 22) (.cons (.var 23) (.cons (.upd 1 (.var 24) (.var 6) (.cons (.var 8) .nil)) (.cons (.var 25) (.cons (.var 26) (.cons (.n 0) .nil))))))))))))
          (.need (.t true) (.pre 21 (.cons (.var 22) (.cons (.var 23) (.cons (.var 24) (.cons (.var 25) (.cons (.var 26) .nil))))))
          (.lt (.app 21 (.cons (.var 22) (.cons (.var 23) (.cons (.var 24) (.cons (.var 25) (.cons (.var 26) .nil))))) 0) 1
          (.ite (.un .not (.bin .eq (.var 27) (.n 0)))
           (.ret (.cons (.str ⟨#[]⟩) (.cons (.t false) (.cons .lnil (.cons .lnil (.cons .lnil (.cons (.var 27) .nil)))))))
           (.ret (.cons (.var 22) (.cons (.var 23) (.cons (.var 24) (.cons (.var 25) (.cons (.var 26) (.cons (.n 0) .nil))))))))))))))))))))))))
theorem e10 : (fnVT Try.prog (sgOf sg10) (ltOf lt10) S10 Try.f10 c10).slim (S10.ps.map fun p => p.2.length).sum [] = vt10 := by kernel_rfl

/-! ### 13 -/
def S13 : Sig := ⟨[(true, [.str, .bool, (.sl 29 [.str, .str, (.int .i64), (.int .i64), (.int .i64), (.sl 75 [.str, (.int .i64)])]), (.sl 31 [(.int .i64), (.int .i64), (.int .i64), (.int .i64), .str, (.int .i64), (.int .i64)]), (.sl 61 [.str, (.int .i64)])]), (true, [(.int .i64), (.int .i64), .str, .str, (.int .i64), (.int .i64), (.int .i64), (.sl 75 [.str, (.int .i64)]), (.int .i64), (.int .i64), (.int .i64), (.int .i64), .str, (.int .i64), (.int .i64)])], [(false, [(.sl 33 [(.int .i64), (.int .i64), .str, .str, (.int .i64), (.int .i64), (.int .i64), (.sl 75 [.str, (.int .i64)]), (.int .i64), (.int .i64), (.int .i64), (.int .i64), .str, (.int .i64), (.int .i64)])]), (false, [(.int .i64)])], [], none⟩
noncomputable def c13 : Code := Try.f13.body.getD .skip
theorem b13 : Try.f13.body = some c13 := body_some (by kernel_rfl)
theorem n13 : (Try.f13.name == "runtime.NumGoroutine") = false := by kernel_rfl
def sg13 : List (FuncId × Sig) := [(10, S10), (24, S24), (33, S33)]
def L13_0 : LoopSig := ⟨11300, [],
   ⟨[.any, .any, .any, (.c (.ptr 1 0)), (.c (.x (.sl 33 [(.int .i64), (.int .i64), .str, .str, (.int .i64), (.int .i64), (.int .i64), (.sl 75 [.str, (.int .i64)]), (.int .i64), (.int .i64), (.int .i64), (.int .i64), .str, (.int .i64), (.int .i64)]) (.var 0))), (.c (.x (.int .i64) (.var 1))), .any, .any, .any, (.c (.row 3 1)), .any, .any, .any, .any, .any, .any, .any, .any, .any, .any, .any, .any, .any, .any, .any, .any, .any, .any, .any, .any, .any, .any, .any, .any, .any, .any, .any, .any, .any, .any, .any, .any, .any, .any, .any, .any, .any, .any, .any, .any, .any, .any, .any, .any, .any, .any, .any, .any, .any, .any, .any, .any, .any, .any, .any, .any, .any, .any, .any, .any, .any, .any, .any, .any, .any, .any, .any, .any, .any, .any, .any, .any, .any, .any, .any, .any, .any, .any, .any, .any, .any, .any, .any, .any, .any, .any, .any, .any, .any, .any, .any, .any, (.c (.x (.sl 31 [(.int .i64), (.int .i64), (.int .i64), (.int .i64), .str, (.int .i64), (.int .i64)]) (.var 2))), (.c (.x (.int .i64) (.var 3))), (.c (.x (.int .i64) (.var 4))), .any, .any, .any, .any, .any, .any, .any, .any, .any, .any, .any, .any, .any, .any, .any, .any, .any],
    [none, some ⟨(.t true), (.box 33 [(.x (.int .i64) (.var 5)), (.x (.int .i64) (.var 6)), (.x .str (.var 7)), (.x .str (.var 8)), (.x (.int .i64) (.var 9)), (.x (.int .i64) (.var 10)), (.x (.int .i64) (.var 11)), (.x (.sl 75 [.str, (.int .i64)]) (.var 12)), (.x (.int .i64) (.var 13)), (.x (.int .i64) (.var 14)), (.x (.int .i64) (.var 15)), (.x (.int .i64) (.var 16)), (.x .str (.var 17)), (.x (.int .i64) (.var 18)), (.x (.int .i64) (.var 19))] false)⟩, none, some ⟨(.t true), (.row 33 [(.int .i64), (.int .i64), .str, .str, (.int .i64), (.int .i64), (.int .i64), (.sl 75 [.str, (.int .i64)]), (.int .i64), (.int .i64), (.int .i64), (.int .i64), .str, (.int .i64), (.int .i64)] (.var 20) 1 false)⟩]⟩,
   21, [0, 1, 4, 20], [105, 106, 107, 11, 108, 109, 110, 111, 112, 113, 114, 115, 116, 9, 117, 118, 119, 4, 5, 120, 104], [.ret, (.exit 1)], [20]⟩
def lt13 : List (Nat × LoopSig) := [(22, L13_0)]
theorem k13 : (Code.loops c13).length = 1 := by kernel_rfl
noncomputable def lb13_0 : Code := (Code.loops c13).getD 0 .skip
def rt13_0 : VT :=
  (.ite (.bin .lt (.var 4) (.var 3))
   (.need (.t true) (.c (.bin .le (.n 0) (.var 4)))
   (.need (.t true) (.c (.bin .lt (.var 4) (.un .len (.var 2))))
   (.need (.t true) (.pre 33 (.cons (.sel 0 (.var 2) (.var 4)) (.cons (.sel 1 (.var 2) (.var 4)) (.cons (.sel 2 (.var 2) (.var 4)) (.cons (.sel 3 (.var 2) (.var 4)) (.cons (.sel 4 (.var 2) (.var 4)) (.cons (.sel 5 (.var 2) (.var 4)) (.cons (.sel 6 (.var 2) (.var 4)) (.cons (.var 6) .nil)))))))))
   (.lt (.app 33 (.cons (.sel 0 (.var 2) (.var 4)) (.cons (.sel 1 (.var 2) (.var 4)) (.cons (.sel 2 (.var 2) (.var 4)) (.cons (.sel 3 (.var 2) (.var 4)) (.cons (.sel 4 (.var 2) (.var 4)) (.cons (.sel 5 (.var 2) (.var 4)) (.cons (.sel 6 (.var 2) (.var 4)) (.cons (.var 6) .nil)))))))) 0) 1
   (.ite (.var 21)
    (.need (.t true) (.c (.bin .le (.un .len (.bin .cat (.var 20) (.lcons (.cons (.n 3) (.cons (.n 0) (.cons (.str ⟨#[]⟩) (.cons (.str ⟨#[]⟩) (.cons (.n 0) (.cons (.n 0) (.cons (.n 0) (.cons .lnil (.cons (.sel 0 (.var 2) (.var 4)) (.cons (.sel 1 (.var 2) (.var 4)) (.cons (.sel 2 (.var 2) (.var 4)) (.cons (.sel 3 (.var 2) (.var 4)) (.cons (.sel 4 (.var 2) (.var 4)) (.cons (.sel 5 (.var 2) (.var 4)) (.cons (.sel 6 (.var 2) (.var 4)) .nil))))))))))))))) .lnil))) (.n 879609302220)))
    (.ret (.cons (.n (-1)) (.cons (.var 0) (.cons (.var 1) (.cons (.bin (.add .i64) (.var 4) (.n 1)) (.cons (.bin .cat (.var 20) (.lcons (.cons (.n 3) (.cons (.n 0) (.cons (.str ⟨#[]⟩) (.cons (.str ⟨#[]⟩) (.cons (.n 0) (.cons (.n 0) (.cons (.n 0) (.cons .lnil (.cons (.sel 0 (.var 2) (.var 4)) (.cons (.sel 1 (.var 2) (.var 4)) (.cons (.sel 2 (.var 2) (.var 4)) (.cons (.sel 3 (.var 2) (.var 4)) (.cons (.sel 4 (.var 2) (.var 4)) (.cons (.sel 5 (.var 2) (.var 4)) (.cons (.sel 6 (.var 2) (.var 4)) .nil))))))))))))))) .lnil)) .nil)))))))
    (.ite (.bin .lt (.n 1) (.un .len (.var 20)))
     (.ret (.cons (.n 0) (.cons .lnil (.cons (.n 1) (.cons (.var 4) (.cons (.var 20) .nil))))))
     (.ret (.cons (.n (-1)) (.cons (.var 0) (.cons (.var 1) (.cons (.bin (.add .i64) (.var 4) (.n 1)) (.cons (.var 20) .nil))))))))))))
   (.ret (.cons (.n 1) (.cons (.var 0) (.cons (.var 1) (.cons (.var 4) (.cons (.var 20) .nil)))))))
theorem le13_0 : (loopVT Try.prog (sgOf sg13) (ltOf lt13) L13_0 lb13_0).slim L13_0.nv [] = rt13_0 := by kernel_rfl
theorem lf13_0 : (firstRegion lb13_0).bind (ltOf lt13) = some L13_0 := by kernel_rfl
theorem lk13_0 : (Code.loops lb13_0).length = 0 := by kernel_rfl
def vt13 : VT :=
  (.need (.t true) (.pre 10 (.cons (.var 0) (.cons (.var 1) (.cons (.var 2) (.cons (.var 3) (.cons (.var 4) (.cons (.var 5) (.cons (.var 6) (.cons (.var 7) (.cons (.var 8) (.cons (.var 9) (.cons (.var 10) (.cons (.var 11) (.cons (.var 12) (.cons (.var 13) (.cons (.var 14) (.cons (.var 15) (.cons (.var 16) (.cons (.var 17) (.cons (.var 18) (.cons (.var 19) .nil)))))))))))))))))))))
  (.lt (.app 10 (.cons (.var 0) (.cons (.var 1) (.cons (.var 2) (.cons (.var 3) (.cons (.var 4) (.cons (.var 5) (.cons (.var 6) (.cons (.var 7) (.cons (.var 8) (.cons (.var 9) (.cons (.var 10) (.cons (.var 11) (.cons (.var 12) (.cons (.var 13) (.cons (.var 14) (.cons (.var 15) (.cons (.var 16) (.cons (.var 17) (.cons (.var 18) (.cons (.var 19) .nil)))))))))))))))))))) 0) 6
  (.ite (.un .not (.bin .eq (.var 25) (.n 0)))
   (.ret (.cons .lnil (.cons (.var 25) .nil)))
   (.ite (.bin .eq (.var 5) (.n 1))
    (.ret (.cons (.lcons (.cons (.n 2) (.cons (.un .len (.var 2)) (.cons (.str ⟨#[]⟩) (.cons (.str ⟨#[]⟩) (.cons (.n 0) (.cons (.n 0) (.cons (.n 0) (.cons .lnil (.cons (.n 0) (.cons (.n 0) (.cons (.n 0) (.cons (.n 0) (.cons (.str ⟨#[]⟩) (.cons (.n 0) (.cons (.n 0) .nil))))))))))))))) .lnil) (.cons (.n 0) .nil)))
    (.ite (.bin .eq (.var 5) (.n 3))
     (.ret (.cons (.lcons (.cons (.n 4) (.cons (.un .len (.var 3)) (.cons (.str ⟨#[]⟩) (.cons (.str ⟨#[]⟩) (.cons (.n 0) (.cons (.n 0) (.cons (.n 0) (.cons .lnil (.cons (.n 0) (.cons (.n 0) (.cons (.n 0) (.cons (.n 0) (.cons (.str ⟨#[]⟩) (.cons (.n 0) (.cons (.n 0) .nil))))))))))))))) .lnil) (.cons (.n 0) .nil)))
     (.ite (.bin .eq (.var 5) (.n 5))
      (.need (.t true) (.c (.bin .le (.n 0) (.var 6)))
      (.need (.t true) (.c (.bin .lt (.var 6) (.un .len (.var 2))))
      (.ret (.cons (.lcons (.cons (.n 5) (.cons (.var 6) (.cons (.str ⟨#[]⟩) (.cons (.str ⟨#[]⟩) (.cons (.sel 2 (.var 2) (.var 6)) (.cons (.sel 3 (.var 2) (.var 6)) (.cons (.n 0) (.cons .lnil (.cons (.n 0) (.cons (.n 0) (.cons (.n 0) (.cons (.n 0) (.cons (.str ⟨#[]⟩) (.cons (.n 0) (.cons (.n 0) .nil))))))))))))))) .lnil) (.cons (.n 0) .nil)))))
      (.ite (.bin .eq (.var 5) (.n 6))
       (.need (.t true) (.c (.bin .le (.n 0) (.var 6)))
       (.need (.t true) (.c (.bin .lt (.var 6) (.un .len (.var 2))))
       (.ret (.cons (.lcons (.cons (.n 6) (.cons (.var 6) (.cons (.str ⟨#[]⟩) (.cons (.sel 1 (.var 2) (.var 6)) (.cons (.n 0) (.cons (.n 0) (.cons (.n 0) (.cons .lnil (.cons (.n 0) (.cons (.n 0) (.cons (.n 0) (.cons (.n 0) (.cons (.str ⟨#[]⟩) (.cons (.n 0) (.cons (.n 0) .nil))))))))))))))) .lnil) (.cons (.n 0) .nil)))))
       (.ite (.bin .eq (.var 5) (.n 4))
        (.ite (.un .not (.bin .eq (.var 6) (.bin (.sub .i64) (.un .len (.var 3)) (.n 1))))
         (.ret (.cons .lnil (.cons (.n 1) .nil)))
         (.need (.t true) (.c (.bin .le (.n 0) (.var 6)))
         (.need (.t true) (.c (.bin .lt (.var 6) (.un .len (.var 3))))
         (.ret (.cons (.lcons (.cons (.n 3) (.cons (.n 0) (.cons (.str ⟨#[]⟩) (.cons (.str ⟨#[]⟩) (.cons (.n 0) (.cons (.n 0) (.cons (.n 0) (.cons .lnil (.cons (.sel 0 (.var 3) (.var 6)) (.cons (.sel 1 (.var 3) (.var 6)) (.cons (.sel 2 (.var 3) (.var 6)) (.cons (.sel 3 (.var 3) (.var 6)) (.cons (.sel 4 (.var 3) (.var 6)) (.cons (.sel 5 (.var 3) (.var 6)) (.cons (.sel 6 (.var 3) (.var 6)) .nil))))))))))))))) .lnil) (.cons (.n 0) .nil))))))
        (.ite (.un .not (.bin .eq (.var 6) (.bin (.sub .i64) (.un .len (.var 2)) (.n 1))))
         (.ret (.cons .lnil (.cons (.n 1) .nil)))
         (.need (.t true) (.c (.bin .le (.n 0) (.var 6)))
         (.need (.t true) (.c (.bin .lt (.var 6) (.un .len (.var 2))))
         (.need (.t true) (.pre 24 (.cons (.sel 0 (.var 2) (.var 6)) (.cons (.sel 1 (.var 2) (.var 6)) (.cons (.sel 2 (.var 2) (.var 6)) (.cons (.sel 3 (.var 2) (.var 6)) (.cons (.sel 4 (.var 2) (.var 6)) (.cons (.sel 5 (.var 2) (.var 6)) .nil)))))))
         (.lt (.app 24 (.cons (.sel 0 (.var 2) (.var 6)) (.cons (.sel 1 (.var 2) (.var 6)) (.cons (.sel 2 (.var 2) (.var 6)) (.cons (.sel 3 (.var 2) (.var 6)) (.cons (.sel 4 (.var 2) (.var 6)) (.cons (.sel 5 (.var 2) (.var 6)) .nil)))))) 0) 6
         (.need (.t true) (.pre 11300 (.cons .lnil (.cons (.n 0) (.cons (.var 3) (.cons (.un .len (.var 3)) (.cons (.n 0) (.cons (.var 5) (.cons (.var 6) (.cons (.var 7) (.cons (.var 8) (.cons (.var 9) (.cons (.var 10) (.cons (.var 11) (.cons (.var 12) (.cons (.var 13) (.cons (.var 14) (.cons (.var 15) (.cons (.var 16) (.cons (.var 17) (.cons (.var 18) (.cons (.var 19) (.cons (.lcons (.cons (.n 1) (.cons (.n 0) (.cons (.var 26) (.cons (.var 27) (.cons (.var 28) (.cons (.var 29) (.cons (.var 30) (.cons (.var 31) (.cons (.n 0) (.cons (.n 0) (.cons (.n 0) (.cons (.n 0) (.cons (.str ⟨#[]⟩) (.cons (.n 0) (.cons (.n 0) .nil))))))))))))))) .lnil) .nil))))))))))))))))))))))
         (.lt (.app 11300 (.cons .lnil (.cons (.n 0) (.cons (.var 3) (.cons (.un .len (.var 3)) (.cons (.n 0) (.cons (.var 5) (.cons (.var 6) (.cons (.var 7) (.cons (.var 8) (.cons (.var 9) (.cons (.var 10) (.cons (.var 11) (.cons (.var 12) (.cons (.var 13) (.cons (.var 14) (.cons (.var 15) (.cons (.var 16) (.cons (.var 17) (.cons (.var 18) (.cons (.var 19) (.cons (.lcons (.cons (.n 1) (.cons (.n 0) (.cons (.var 26) (.cons (.var 27) (.cons (.var 28) (.cons (.var 29) (.cons (.var 30) (.cons (.var 31) (.cons (.n 0) (.cons (.n 0) (.cons (.n 0) (.cons (.n 0) (.cons (.str ⟨#[]⟩) (.cons (.n 0) (.cons (.n 0) .nil))))))))))))))) .lnil) .nil))))))))))))))))))))) 0) 5
         (.ite (.bin .eq (.var 32) (.n 0))
          (.ret (.cons (.var 33) (.cons (.var 34) .nil)))
          (.ret (.cons (.var 36) (.cons (.n 0) .nil)))))))))))))))))))
theorem e13 : (fnVT Try.prog (sgOf sg13) (ltOf lt13) S13 Try.f13 c13).slim (S13.ps.map fun p => p.2.length).sum [] = vt13 := by kernel_rfl

/-! ### 9 -/
def S9 : Sig := ⟨[], [(false, [.bool])], [], none⟩
noncomputable def c9 : Code := Try.f9.body.getD .skip
theorem b9 : Try.f9.body = some c9 := body_some (by kernel_rfl)
theorem n9 : (Try.f9.name == "runtime.NumGoroutine") = false := by kernel_rfl
def sg9 : List (FuncId × Sig) := [(10, S10), (13, S13)]
def lt9 : List (Nat × LoopSig) := []
theorem k9 : (Code.loops c9).length = 0 := by kernel_rfl
def vt9 : VT :=
  (.need (.t true) (.pre 10 (.cons (.str ⟨#[103]⟩) (.cons (.t false) (.cons (.lcons (.cons (.str ⟨#[97]⟩) (.cons (.str ⟨#[97]⟩) (.cons (.n 5) (.cons (.n 5) (.cons (.n (-1)) (.cons .lnil .nil)))))) (.lcons (.cons (.str ⟨#[98]⟩) (.cons (.str ⟨#[97]⟩) (.cons (.n 5) (.cons (.n 5) (.cons (.n (-1)) (.cons .lnil .nil)))))) .lnil)) (.cons (.lcons (.cons (.n 0) (.cons (.n 1) (.cons (.n (-1)) (.cons (.n (-1)) (.cons (.str ⟨#[]⟩) (.cons (.n 1) (.cons (.n 1) .nil))))))) (.lcons (.cons (.n 1) (.cons (.n 1) (.cons (.n (-1)) (.cons (.n (-1)) (.cons (.str ⟨#[]⟩) (.cons (.n 1) (.cons (.n 1) .nil))))))) .lnil)) (.cons .lnil (.cons (.n 2) (.cons (.n 0) (.cons (.str ⟨#[]⟩) (.cons (.str ⟨#[]⟩) (.cons (.n 0) (.cons (.n 0) (.cons (.n 0) (.cons .lnil (.cons (.n 0) (.cons (.n 0) (.cons (.n 0) (.cons (.n 0) (.cons (.str ⟨#[]⟩) (.cons (.n 0) (.cons (.n 0) .nil)))))))))))))))))))))
  (.lt (.app 10 (.cons (.str ⟨#[103]⟩) (.cons (.t false) (.cons (.lcons (.cons (.str ⟨#[97]⟩) (.cons (.str ⟨#[97]⟩) (.cons (.n 5) (.cons (.n 5) (.cons (.n (-1)) (.cons .lnil .nil)))))) (.lcons (.cons (.str ⟨#[98]⟩) (.cons (.str ⟨#[97]⟩) (.cons (.n 5) (.cons (.n 5) (.cons (.n (-1)) (.cons .lnil .nil)))))) .lnil)) (.cons (.lcons (.cons (.n 0) (.cons (.n 1) (.cons (.n (-1)) (.cons (.n (-1)) (.cons (.str ⟨#[]⟩) (.cons (.n 1) (.cons (.n 1) .nil))))))) (.lcons (.cons (.n 1) (.cons (.n 1) (.cons (.n (-1)) (.cons (.n (-1)) (.cons (.str ⟨#[]⟩) (.cons (.n 1) (.cons (.n 1) .nil))))))) .lnil)) (.cons .lnil (.cons (.n 2) (.cons (.n 0) (.cons (.str ⟨#[]⟩) (.cons (.str ⟨#[]⟩) (.cons (.n 0) (.cons (.n 0) (.cons (.n 0) (.cons .lnil (.cons (.n 0) (.cons (.n 0) (.cons (.n 0) (.cons (.n 0) (.cons (.str ⟨#[]⟩) (.cons (.n 0) (.cons (.n 0) .nil)))))))))))))))))))) 0) 6
  (.need (.t true) (.pre 13 (.cons (.str ⟨#[103]⟩) (.cons (.t false) (.cons (.lcons (.cons (.str ⟨#[97]⟩) (.cons (.str ⟨#[97]⟩) (.cons (.n 5) (.cons (.n 5) (.cons (.n (-1)) (.cons .lnil .nil)))))) (.lcons (.cons (.str ⟨#[98]⟩) (.cons (.str ⟨#[97]⟩) (.cons (.n 5) (.cons (.n 5) (.cons (.n (-1)) (.cons .lnil .nil)))))) .lnil)) (.cons (.lcons (.cons (.n 0) (.cons (.n 1) (.cons (.n (-1)) (.cons (.n (-1)) (.cons (.str ⟨#[]⟩) (.cons (.n 1) (.cons (.n 1) .nil))))))) (.lcons (.cons (.n 1) (.cons (.n 1) (.cons (.n (-1)) (.cons (.n (-1)) (.cons (.str ⟨#[]⟩) (.cons (.n 1) (.cons (.n 1) .nil))))))) .lnil)) (.cons .lnil (.cons (.n 2) (.cons (.n 0) (.cons (.str ⟨#[]⟩) (.cons (.str ⟨#[]⟩) (.cons (.n 0) (.cons (.n 0) (.cons (.n 0) (.cons .lnil (.cons (.n 0) (.cons (.n 0) (.cons (.n 0) (.cons (.n 0) (.cons (.str ⟨#[]⟩) (.cons (.n 0) (.cons (.n 0) .nil)))))))))))))))))))))
  (.lt (.app 13 (.cons (.str ⟨#[103]⟩) (.cons (.t false) (.cons (.lcons (.cons (.str ⟨#[97]⟩) (.cons (.str ⟨#[97]⟩) (.cons (.n 5) (.cons (.n 5) (.cons (.n (-1)) (.cons .lnil .nil)))))) (.lcons (.cons (.str ⟨#[98]⟩) (.cons (.str ⟨#[97]⟩) (.cons (.n 5) (.cons (.n 5) (.cons (.n (-1)) (.cons .lnil .nil)))))) .lnil)) (.cons (.lcons (.cons (.n 0) (.cons (.n 1) (.cons (.n (-1)) (.cons (.n (-1)) (.cons (.str ⟨#[]⟩) (.cons (.n 1) (.cons (.n 1) .nil))))))) (.lcons (.cons (.n 1) (.cons (.n 1) (.cons (.n (-1)) (.cons (.n (-1)) (.cons (.str ⟨#[]⟩) (.cons (.n 1) (.cons (.n 1) .nil))))))) .lnil)) (.cons .lnil (.cons (.n 2) (.cons (.n 0) (.cons (.str ⟨#[]⟩) (.cons (.str ⟨#[]⟩) (.cons (.n 0) (.cons (.n 0) (.cons (.n 0) (.cons .lnil (.cons (.n 0) (.cons (.n 0) (.cons (.n 0) (.cons (.n 0) (.cons (.str ⟨#[]⟩) (.cons (.n 0) (.cons (.n 0) .nil)))))))))))))))))))) 0) 2
  (.need (.ite (.bin .eq (.var 5) (.n 0)) (.bin .eq (.un .len (.var 2)) (.n 1)) (.t false)) (.c (.bin .lt (.n 0) (.un .len (.var 2))))
  (.need (.ite (.ite (.ite (.bin .eq (.var 5) (.n 0)) (.bin .eq (.un .len (.var 2)) (.n 1)) (.t false)) (.bin .seq (.sel 0 (.var 2) (.n 0)) (.str ⟨#[98]⟩)) (.t false)) (.bin .eq (.un .len (.var 3)) (.n 1)) (.t false)) (.c (.bin .lt (.n 0) (.un .len (.var 3))))
  (.ret (.cons (.ite (.ite (.ite (.ite (.ite (.bin .eq (.var 5) (.n 0)) (.bin .eq (.un .len (.var 2)) (.n 1)) (.t false)) (.bin .seq (.sel 0 (.var 2) (.n 0)) (.str ⟨#[98]⟩)) (.t false)) (.bin .eq (.un .len (.var 3)) (.n 1)) (.t false)) (.bin .eq (.sel 0 (.var 3) (.n 0)) (.n 0)) (.t false)) (.bin .eq (.var 7) (.n 1)) (.t false)) .nil))))))))
theorem e9 : (fnVT Try.prog (sgOf sg9) (ltOf lt9) S9 Try.f9 c9).slim (S9.ps.map fun p => p.2.length).sum [] = vt9 := by kernel_rfl

/-! ### 77 -/
def S77 : Sig := ⟨[(false, [(.int .u8)])], [(false, [.bool])], [], none⟩
noncomputable def c77 : Code := Try.f77.body.getD .skip
theorem b77 : Try.f77.body = some c77 := body_some (by kernel_rfl)
theorem n77 : (Try.f77.name == "runtime.NumGoroutine") = false := by kernel_rfl
def sg77 : List (FuncId × Sig) := []
def lt77 : List (Nat × LoopSig) := []
theorem k77 : (Code.loops c77).length = 0 := by kernel_rfl
def vt77 : VT :=
  (.ret (.cons (.ite (.ite (.ite (.bin .le (.n 97) (.var 0)) (.bin .le (.var 0) (.n 122)) (.t false)) (.t true) (.ite (.bin .le (.n 65) (.var 0)) (.bin .le (.var 0) (.n 90)) (.t false))) (.t true) (.bin .eq (.var 0) (.n 95))) .nil))
theorem e77 : (fnVT Try.prog (sgOf sg77) (ltOf lt77) S77 Try.f77 c77).slim (S77.ps.map fun p => p.2.length).sum [] = vt77 := by kernel_rfl
def T77 : FuncId → List D → List D := tabOf []
def fn77 (ρ : List D) : List D := vt77.val T77 ρ
theorem m77 : Meets Try.prog 77 S77 (fun _ => True) fn77 := meets_easy (sgl := sg77) (Φ := T77) mixed ((fun _ h => nomatch h)) Try.func77 b77 n77 k77 e77 (by kernel_rfl)

/-! ### 78 -/
def S78 : Sig := ⟨[(false, [(.int .u8)])], [(false, [.bool])], [], none⟩
noncomputable def c78 : Code := Try.f78.body.getD .skip
theorem b78 : Try.f78.body = some c78 := body_some (by kernel_rfl)
theorem n78 : (Try.f78.name == "runtime.NumGoroutine") = false := by kernel_rfl
def sg78 : List (FuncId × Sig) := []
def lt78 : List (Nat × LoopSig) := []
theorem k78 : (Code.loops c78).length = 0 := by kernel_rfl
def vt78 : VT :=
  (.ret (.cons (.ite (.bin .le (.n 48) (.var 0)) (.bin .le (.var 0) (.n 57)) (.t false)) .nil))
theorem e78 : (fnVT Try.prog (sgOf sg78) (ltOf lt78) S78 Try.f78 c78).slim (S78.ps.map fun p => p.2.length).sum [] = vt78 := by kernel_rfl
def T78 : FuncId → List D → List D := tabOf []
def fn78 (ρ : List D) : List D := vt78.val T78 ρ
theorem m78 : Meets Try.prog 78 S78 (fun _ => True) fn78 := meets_easy (sgl := sg78) (Φ := T78) mixed ((fun _ h => nomatch h)) Try.func78 b78 n78 k78 e78 (by kernel_rfl)

/-! ### 62 -/
def S62 : Sig := ⟨[(false, [.str])], [(false, [(.int .i64)])], [], none⟩
noncomputable def c62 : Code := Try.f62.body.getD .skip
theorem b62 : Try.f62.body = some c62 := body_some (by kernel_rfl)
theorem n62 : (Try.f62.name == "runtime.NumGoroutine") = false := by kernel_rfl
def sg62 : List (FuncId × Sig) := [(77, S77), (78, S78)]
def L62_0 : LoopSig := ⟨16200, [],
   ⟨[(.c (.x .str (.var 0))), .any, .any, (.c (.x (.int .i64) (.var 1))), .any, .any, .any, .any, .any, .any, .any, .any, .any, .any, .any, .any, .any, .any, .any, .any, .any, .any, .any, .any, .any, .any, .any],
    []⟩,
   2, [1], [4, 5, 6, 7, 8, 9, 10, 11, 12, 13, 14, 15, 16, 17, 18, 19, 20, 21, 22, 23, 24, 25, 3], [(.exit 0)], []⟩
def lt62 : List (Nat × LoopSig) := [(2, L62_0)]
theorem k62 : (Code.loops c62).length = 1 := by kernel_rfl
noncomputable def lb62_0 : Code := (Code.loops c62).getD 0 .skip
def rt62_0 : VT :=
  (.need (.bin .lt (.var 1) (.un .slen (.var 0))) (.c (.bin .le (.n 0) (.var 1)))
  (.need (.bin .lt (.var 1) (.un .slen (.var 0))) (.c (.bin .lt (.var 1) (.un .slen (.var 0))))
  (.need (.bin .lt (.var 1) (.un .slen (.var 0))) (.pre 77 (.cons (.bin .sidx (.var 0) (.var 1)) .nil))
  (.lt (.app 77 (.cons (.bin .sidx (.var 0) (.var 1)) .nil) 0) 1
  (.need (.ite (.ite (.bin .lt (.var 1) (.un .slen (.var 0))) (.un .not (.var 2)) (.t false)) (.bin .lt (.n 0) (.var 1)) (.t false)) (.c (.bin .le (.n 0) (.var 1)))
  (.need (.ite (.ite (.bin .lt (.var 1) (.un .slen (.var 0))) (.un .not (.var 2)) (.t false)) (.bin .lt (.n 0) (.var 1)) (.t false)) (.c (.bin .lt (.var 1) (.un .slen (.var 0))))
  (.need (.ite (.ite (.bin .lt (.var 1) (.un .slen (.var 0))) (.un .not (.var 2)) (.t false)) (.bin .lt (.n 0) (.var 1)) (.t false)) (.pre 78 (.cons (.bin .sidx (.var 0) (.var 1)) .nil))
  (.lt (.app 78 (.cons (.bin .sidx (.var 0) (.var 1)) .nil) 0) 1
  (.ite (.ite (.bin .lt (.var 1) (.un .slen (.var 0))) (.ite (.var 2) (.t true) (.ite (.bin .lt (.n 0) (.var 1)) (.var 3) (.t false))) (.t false))
   (.ret (.cons (.n (-1)) (.cons (.bin (.add .i64) (.var 1) (.n 1)) .nil)))
   (.ret (.cons (.n 0) (.cons (.var 1) .nil))))))))))))
theorem le62_0 : (loopVT Try.prog (sgOf sg62) (ltOf lt62) L62_0 lb62_0).slim L62_0.nv [] = rt62_0 := by kernel_rfl
theorem lf62_0 : (firstRegion lb62_0).bind (ltOf lt62) = some L62_0 := by kernel_rfl
theorem lk62_0 : (Code.loops lb62_0).length = 0 := by kernel_rfl
def vt62 : VT :=
  (.need (.t true) (.pre 16200 (.cons (.var 0) (.cons (.n 0) .nil)))
  (.lt (.app 16200 (.cons (.var 0) (.cons (.n 0) .nil)) 0) 2
  (.ret (.cons (.var 2) .nil))))
theorem e62 : (fnVT Try.prog (sgOf sg62) (ltOf lt62) S62 Try.f62 c62).slim (S62.ps.map fun p => p.2.length).sum [] = vt62 := by kernel_rfl

/-! ### 63 -/
def S63 : Sig := ⟨[(false, [.str])], [(false, [.bool])], [], none⟩
noncomputable def c63 : Code := Try.f63.body.getD .skip
theorem b63 : Try.f63.body = some c63 := body_some (by kernel_rfl)
theorem n63 : (Try.f63.name == "runtime.NumGoroutine") = false := by kernel_rfl
def sg63 : List (FuncId × Sig) := []
def lt63 : List (Nat × LoopSig) := []
theorem k63 : (Code.loops c63).length = 0 := by kernel_rfl
def vt63 : VT :=
  (.ite (.bin .seq (.var 0) (.str ⟨#[100, 105, 103, 114, 97, 112, 104]⟩))
   (.ret (.cons (.t true) .nil))
   (.ite (.bin .seq (.var 0) (.str ⟨#[103, 114, 97, 112, 104]⟩))
    (.ret (.cons (.t true) .nil))
    (.ite (.bin .seq (.var 0) (.str ⟨#[110, 111, 100, 101]⟩))
     (.ret (.cons (.t true) .nil))
     (.ite (.bin .seq (.var 0) (.str ⟨#[101, 100, 103, 101]⟩))
      (.ret (.cons (.t true) .nil))
      (.ite (.bin .seq (.var 0) (.str ⟨#[115, 101, 116]⟩))
       (.ret (.cons (.t true) .nil))
       (.ite (.bin .seq (.var 0) (.str ⟨#[99, 108, 117, 115, 116, 101, 114]⟩))
        (.ret (.cons (.t true) .nil))
        (.ret (.cons (.t false) .nil))))))))
theorem e63 : (fnVT Try.prog (sgOf sg63) (ltOf lt63) S63 Try.f63 c63).slim (S63.ps.map fun p => p.2.length).sum [] = vt63 := by kernel_rfl
def T63 : FuncId → List D → List D := tabOf []
def fn63 (ρ : List D) : List D := vt63.val T63 ρ
theorem m63 : Meets Try.prog 63 S63 (fun _ => True) fn63 := meets_easy (sgl := sg63) (Φ := T63) mixed ((fun _ h => nomatch h)) Try.func63 b63 n63 k63 e63 (by kernel_rfl)

/-! ### 45 -/
def S45 : Sig := ⟨[(false, [.str])], [(false, [.bool])], [], none⟩
noncomputable def c45 : Code := Try.f45.body.getD .skip
theorem b45 : Try.f45.body = some c45 := body_some (by kernel_rfl)
theorem n45 : (Try.f45.name == "runtime.NumGoroutine") = false := by kernel_rfl
def sg45 : List (FuncId × Sig) := [(62, S62), (63, S63)]
def lt45 : List (Nat × LoopSig) := []
theorem k45 : (Code.loops c45).length = 0 := by kernel_rfl
def vt45 : VT :=
  (.need (.un .not (.bin .seq (.var 0) (.str ⟨#[]⟩))) (.pre 62 (.cons (.var 0) .nil))
  (.lt (.app 62 (.cons (.var 0) .nil) 0) 1
  (.need (.ite (.ite (.un .not (.bin .seq (.var 0) (.str ⟨#[]⟩))) (.bin .eq (.var 1) (.un .slen (.var 0))) (.t false)) (.bin .le (.un .slen (.var 0)) (.n 16)) (.t false)) (.pre 63 (.cons (.var 0) .nil))
  (.lt (.app 63 (.cons (.var 0) .nil) 0) 1
  (.ret (.cons (.ite (.ite (.ite (.un .not (.bin .seq (.var 0) (.str ⟨#[]⟩))) (.bin .eq (.var 1) (.un .slen (.var 0))) (.t false)) (.bin .le (.un .slen (.var 0)) (.n 16)) (.t false)) (.un .not (.var 2)) (.t false)) .nil))))))
theorem e45 : (fnVT Try.prog (sgOf sg45) (ltOf lt45) S45 Try.f45 c45).slim (S45.ps.map fun p => p.2.length).sum [] = vt45 := by kernel_rfl

/-! ### 64 -/
def S64 : Sig := ⟨[(true, [.str, .bool, (.sl 29 [.str, .str, (.int .i64), (.int .i64), (.int .i64), (.sl 75 [.str, (.int .i64)])]), (.sl 31 [(.int .i64), (.int .i64), (.int .i64), (.int .i64), .str, (.int .i64), (.int .i64)]), (.sl 61 [.str, (.int .i64)])]), (false, [.str])], [(false, [(.int .i64)])], [], none⟩
noncomputable def c64 : Code := Try.f64.body.getD .skip
theorem b64 : Try.f64.body = some c64 := body_some (by kernel_rfl)
theorem n64 : (Try.f64.name == "runtime.NumGoroutine") = false := by kernel_rfl
def sg64 : List (FuncId × Sig) := []
def L64_0 : LoopSig := ⟨16400, [],
   ⟨[.any, (.c (.x .str (.var 0))), (.c (.ptr 0 0)), .any, (.c (.x (.int .i64) (.var 1))), (.c (.x (.int .i64) (.var 2))), .any, .any, .any, .any, .any, .any, .any, .any, .any, .any, .any, .any, .any, .any, .any, .any],
    [some ⟨(.t true), (.box 26 [(.x .str (.var 3)), (.x .bool (.var 4)), (.x (.sl 29 [.str, .str, (.int .i64), (.int .i64), (.int .i64), (.sl 75 [.str, (.int .i64)])]) (.var 5)), (.x (.sl 31 [(.int .i64), (.int .i64), (.int .i64), (.int .i64), .str, (.int .i64), (.int .i64)]) (.var 6)), (.x (.sl 61 [.str, (.int .i64)]) (.var 7))] false)⟩]⟩,
   8, [1, 2], [6, 7, 8, 9, 10, 13, 14, 15, 16, 17, 18, 19, 20, 21, 4, 11, 12, 5], [.ret, (.exit 0)], []⟩
def lt64 : List (Nat × LoopSig) := [(2, L64_0)]
theorem k64 : (Code.loops c64).length = 1 := by kernel_rfl
noncomputable def lb64_0 : Code := (Code.loops c64).getD 0 .skip
def rt64_0 : VT :=
  (.ite (.bin .lt (.var 2) (.un .len (.var 5)))
   (.need (.t true) (.c (.bin .le (.n 0) (.var 2)))
   (.ite (.bin .seq (.sel 0 (.var 5) (.var 2)) (.var 0))
    (.ret (.cons (.n 0) (.cons (.var 2) (.cons (.var 2) .nil))))
    (.ret (.cons (.n (-1)) (.cons (.var 1) (.cons (.bin (.add .i64) (.var 2) (.n 1)) .nil))))))
   (.ret (.cons (.n 1) (.cons (.var 1) (.cons (.var 2) .nil)))))
theorem le64_0 : (loopVT Try.prog (sgOf sg64) (ltOf lt64) L64_0 lb64_0).slim L64_0.nv [] = rt64_0 := by kernel_rfl
theorem lf64_0 : (firstRegion lb64_0).bind (ltOf lt64) = some L64_0 := by kernel_rfl
theorem lk64_0 : (Code.loops lb64_0).length = 0 := by kernel_rfl
def vt64 : VT :=
  (.need (.t true) (.pre 16400 (.cons (.var 5) (.cons (.n 0) (.cons (.n 0) (.cons (.var 0) (.cons (.var 1) (.cons (.var 2) (.cons (.var 3) (.cons (.var 4) .nil)))))))))
  (.lt (.app 16400 (.cons (.var 5) (.cons (.n 0) (.cons (.n 0) (.cons (.var 0) (.cons (.var 1) (.cons (.var 2) (.cons (.var 3) (.cons (.var 4) .nil)))))))) 0) 3
  (.ite (.bin .eq (.var 6) (.n 0))
   (.ret (.cons (.var 7) .nil))
   (.ret (.cons (.n (-1)) .nil)))))
theorem e64 : (fnVT Try.prog (sgOf sg64) (ltOf lt64) S64 Try.f64 c64).slim (S64.ps.map fun p => p.2.length).sum [] = vt64 := by kernel_rfl

/-! ### 65 -/
def S65 : Sig := ⟨[(false, [.str])], [(false, [.bool])], [], none⟩
noncomputable def c65 : Code := Try.f65.body.getD .skip
theorem b65 : Try.f65.body = some c65 := body_some (by kernel_rfl)
theorem n65 : (Try.f65.name == "runtime.NumGoroutine") = false := by kernel_rfl
def sg65 : List (FuncId × Sig) := []
def L65_0 : LoopSig := ⟨16500, [],
   ⟨[(.c (.x .str (.var 0))), .any, (.c (.x .bool (.var 1))), (.c (.x (.int .i64) (.var 2))), .any, .any, .any, .any, .any, .any, .any, .any, .any, .any, .any, .any, .any, .any, .any, .any],
    []⟩,
   3, [1, 2], [4, 5, 6, 7, 10, 11, 12, 13, 14, 15, 16, 17, 18, 19, 2, 8, 9, 3], [.ret, (.exit 0)], []⟩
def lt65 : List (Nat × LoopSig) := [(2, L65_0)]
theorem k65 : (Code.loops c65).length = 1 := by kernel_rfl
noncomputable def lb65_0 : Code := (Code.loops c65).getD 0 .skip
def rt65_0 : VT :=
  (.ite (.bin .lt (.var 2) (.un .slen (.var 0)))
   (.need (.t true) (.c (.bin .le (.n 0) (.var 2)))
   (.ite (.ite (.bin .lt (.bin .sidx (.var 0) (.var 2)) (.n 32)) (.t true) (.bin .lt (.n 126) (.bin .sidx (.var 0) (.var 2))))
    (.ret (.cons (.n 0) (.cons (.t false) (.cons (.var 2) .nil))))
    (.ret (.cons (.n (-1)) (.cons (.var 1) (.cons (.bin (.add .i64) (.var 2) (.n 1)) .nil))))))
   (.ret (.cons (.n 1) (.cons (.var 1) (.cons (.var 2) .nil)))))
theorem le65_0 : (loopVT Try.prog (sgOf sg65) (ltOf lt65) L65_0 lb65_0).slim L65_0.nv [] = rt65_0 := by kernel_rfl
theorem lf65_0 : (firstRegion lb65_0).bind (ltOf lt65) = some L65_0 := by kernel_rfl
theorem lk65_0 : (Code.loops lb65_0).length = 0 := by kernel_rfl
def vt65 : VT :=
  (.need (.t true) (.pre 16500 (.cons (.var 0) (.cons (.t false) (.cons (.n 0) .nil))))
  (.lt (.app 16500 (.cons (.var 0) (.cons (.t false) (.cons (.n 0) .nil))) 0) 3
  (.ite (.bin .eq (.var 1) (.n 0))
   (.ret (.cons (.var 2) .nil))
   (.ret (.cons (.t true) .nil)))))
theorem e65 : (fnVT Try.prog (sgOf sg65) (ltOf lt65) S65 Try.f65 c65).slim (S65.ps.map fun p => p.2.length).sum [] = vt65 := by kernel_rfl

/-! ### 66 -/
def S66 : Sig := ⟨[(false, [(.sl 75 [.str, (.int .i64)])])], [(false, [(.int .i64)])], [], none⟩
noncomputable def c66 : Code := Try.f66.body.getD .skip
theorem b66 : Try.f66.body = some c66 := body_some (by kernel_rfl)
theorem n66 : (Try.f66.name == "runtime.NumGoroutine") = false := by kernel_rfl
def sg66 : List (FuncId × Sig) := [(45, S45)]
def L66_0 : LoopSig := ⟨16601, [],
   ⟨[(.c (.x (.sl 75 [.str, (.int .i64)]) (.var 0))), .any, (.c (.x (.int .i64) (.var 1))), (.c (.x (.int .i64) (.var 2))), .any, .any, .any, .any, .any, .any, .any, .any, .any, .any, .any, .any, .any, .any, .any, .any, .any, .any, .any, .any, .any, .any, .any, .any, .any, .any, .any, .any, .any, .any, .any, .any, .any, .any, .any, .any, .any, .any, .any, .any, .any, .any, .any, .any],
    []⟩,
   3, [1, 2], [5, 6, 7, 8, 11, 12, 13, 14, 15, 16, 17, 2, 4, 18, 19, 20, 23, 24, 25, 26, 27, 28, 29, 30, 31, 32, 33, 21, 22, 34, 35, 36, 37, 38, 39, 40, 41, 42, 43, 44, 45, 46, 47, 9, 10, 3], [.ret, (.exit 0)], []⟩
def L66_1 : LoopSig := ⟨16600, [],
   ⟨[(.c (.x (.sl 75 [.str, (.int .i64)]) (.var 0))), .any, (.c (.x (.int .i64) (.var 1))), (.c (.x (.int .i64) (.var 2))), (.c (.x (.int .i64) (.var 3))), .any, .any, .any, .any, .any, .any, .any, .any, .any, .any, .any, .any, .any, .any, .any, .any, .any, .any, .any, .any, .any, .any, .any, .any, .any, .any, .any, .any, .any, .any, .any, .any, .any, .any, .any, .any, .any, .any, .any, .any, .any, .any, .any],
    []⟩,
   4, [1, 3], [18, 19, 20, 23, 24, 25, 26, 27, 28, 29, 30, 31, 32, 33, 2, 21, 22, 4], [.ret, (.exit 2)], []⟩
def lt66 : List (Nat × LoopSig) := [(2, L66_0), (7, L66_1)]
theorem k66 : (Code.loops c66).length = 2 := by kernel_rfl
noncomputable def lb66_0 : Code := (Code.loops c66).getD 0 .skip
noncomputable def lb66_1 : Code := (Code.loops c66).getD 1 .skip
def rt66_0 : VT :=
  (.ite (.bin .lt (.var 2) (.un .len (.var 0)))
   (.need (.t true) (.c (.bin .le (.n 0) (.var 2)))
   (.need (.t true) (.pre 45 (.cons (.sel 0 (.var 0) (.var 2)) .nil))
   (.lt (.app 45 (.cons (.sel 0 (.var 0) (.var 2)) .nil) 0) 1
   (.ite (.un .not (.var 3))
    (.ret (.cons (.n 0) (.cons (.n 5) (.cons (.var 2) .nil))))
    (.need (.t true) (.pre 16600 (.cons (.var 0) (.cons (.var 1) (.cons (.var 2) (.cons (.n 0) .nil)))))
    (.lt (.app 16600 (.cons (.var 0) (.cons (.var 1) (.cons (.var 2) (.cons (.n 0) .nil)))) 0) 3
    (.ite (.bin .eq (.var 4) (.n 0))
     (.ret (.cons (.n 0) (.cons (.var 5) (.cons (.var 2) .nil))))
     (.ite (.ite (.bin .lt (.sel 1 (.var 0) (.var 2)) (.n 0)) (.t true) (.bin .lt (.n 3) (.sel 1 (.var 0) (.var 2))))
      (.ret (.cons (.n 0) (.cons (.n 7) (.cons (.var 2) .nil))))
      (.ret (.cons (.n (-1)) (.cons (.var 5) (.cons (.bin (.add .i64) (.var 2) (.n 1)) .nil))))))))))))
   (.ret (.cons (.n 1) (.cons (.var 1) (.cons (.var 2) .nil)))))
theorem le66_0 : (loopVT Try.prog (sgOf sg66) (ltOf lt66) L66_0 lb66_0).slim L66_0.nv [] = rt66_0 := by kernel_rfl
theorem lf66_0 : (firstRegion lb66_0).bind (ltOf lt66) = some L66_0 := by kernel_rfl
theorem lk66_0 : (Code.loops lb66_0).length = 1 := by kernel_rfl
theorem li66_0_0 : (Code.loops lb66_0).getD 0 .skip = lb66_1 := by kernel_rfl
def rt66_1 : VT :=
  (.ite (.bin .lt (.var 3) (.var 2))
   (.need (.t true) (.c (.bin .le (.n 0) (.var 3)))
   (.need (.t true) (.c (.bin .lt (.var 3) (.un .len (.var 0))))
   (.need (.t true) (.c (.bin .le (.n 0) (.var 2)))
   (.need (.t true) (.c (.bin .lt (.var 2) (.un .len (.var 0))))
   (.ite (.bin .seq (.sel 0 (.var 0) (.var 3)) (.sel 0 (.var 0) (.var 2)))
    (.ret (.cons (.n 0) (.cons (.n 6) (.cons (.var 3) .nil))))
    (.ret (.cons (.n (-1)) (.cons (.var 1) (.cons (.bin (.add .i64) (.var 3) (.n 1)) .nil)))))))))
   (.ret (.cons (.n 1) (.cons (.var 1) (.cons (.var 3) .nil)))))
theorem le66_1 : (loopVT Try.prog (sgOf sg66) (ltOf lt66) L66_1 lb66_1).slim L66_1.nv [] = rt66_1 := by kernel_rfl
theorem lf66_1 : (firstRegion lb66_1).bind (ltOf lt66) = some L66_1 := by kernel_rfl
theorem lk66_1 : (Code.loops lb66_1).length = 0 := by kernel_rfl
def vt66 : VT :=
  (.need (.t true) (.pre 16601 (.cons (.var 0) (.cons (.n 0) (.cons (.n 0) .nil))))
  (.lt (.app 16601 (.cons (.var 0) (.cons (.n 0) (.cons (.n 0) .nil))) 0) 3
  (.ite (.bin .eq (.var 1) (.n 0))
   (.ret (.cons (.var 2) .nil))
   (.ret (.cons (.n 0) .nil)))))
theorem e66 : (fnVT Try.prog (sgOf sg66) (ltOf lt66) S66 Try.f66 c66).slim (S66.ps.map fun p => p.2.length).sum [] = vt66 := by kernel_rfl

/-! ### 46 -/
def S46 : Sig := ⟨[(true, [.str, .bool, (.sl 29 [.str, .str, (.int .i64), (.int .i64), (.int .i64), (.sl 75 [.str, (.int .i64)])]), (.sl 31 [(.int .i64), (.int .i64), (.int .i64), (.int .i64), .str, (.int .i64), (.int .i64)]), (.sl 61 [.str, (.int .i64)])]), (false, [(.int .i64)])], [(false, [(.int .i64)])], [], none⟩
noncomputable def c46 : Code := Try.f46.body.getD .skip
theorem b46 : Try.f46.body = some c46 := body_some (by kernel_rfl)
theorem n46 : (Try.f46.name == "runtime.NumGoroutine") = false := by kernel_rfl
def sg46 : List (FuncId × Sig) := [(45, S45), (64, S64), (65, S65), (66, S66)]
def lt46 : List (Nat × LoopSig) := []
theorem k46 : (Code.loops c46).length = 0 := by kernel_rfl
def vt46 : VT :=
  (.need (.t true) (.c (.bin .le (.n 0) (.var 5)))
  (.need (.t true) (.c (.bin .lt (.var 5) (.un .len (.var 2))))
  (.need (.t true) (.pre 45 (.cons (.sel 0 (.var 2) (.var 5)) .nil))
  (.lt (.app 45 (.cons (.sel 0 (.var 2) (.var 5)) .nil) 0) 1
  (.ite (.un .not (.var 6))
   (.ret (.cons (.n 5) .nil))
   (.need (.t true) (.pre 64 (.cons (.var 0) (.cons (.var 1) (.cons (.var 2) (.cons (.var 3) (.cons (.var 4) (.cons (.sel 0 (.var 2) (.var 5)) .nil)))))))
   (.lt (.app 64 (.cons (.var 0) (.cons (.var 1) (.cons (.var 2) (.cons (.var 3) (.cons (.var 4) (.cons (.sel 0 (.var 2) (.var 5)) .nil)))))) 0) 1
   (.ite (.un .not (.bin .eq (.var 7) (.var 5)))
    (.ret (.cons (.n 6) .nil))
    (.ite (.bin .lt (.n 32) (.un .slen (.sel 1 (.var 2) (.var 5))))
     (.ret (.cons (.n 2) .nil))
     (.need (.t true) (.pre 65 (.cons (.sel 1 (.var 2) (.var 5)) .nil))
     (.lt (.app 65 (.cons (.sel 1 (.var 2) (.var 5)) .nil) 0) 1
     (.ite (.un .not (.var 8))
      (.ret (.cons (.n 7) .nil))
      (.ite (.ite (.ite (.ite (.ite (.ite (.bin .lt (.sel 2 (.var 2) (.var 5)) (.n 1)) (.t true) (.bin .lt (.n 1048576) (.sel 2 (.var 2) (.var 5)))) (.t true) (.bin .lt (.sel 3 (.var 2) (.var 5)) (.n 1))) (.t true) (.bin .lt (.n 1048576) (.sel 3 (.var 2) (.var 5)))) (.t true) (.bin .lt (.sel 4 (.var 2) (.var 5)) (.n (-1)))) (.t true) (.bin .le (.un .len (.var 4)) (.sel 4 (.var 2) (.var 5))))
       (.ret (.cons (.n 3) .nil))
       (.ite (.bin .lt (.n 8) (.un .len (.sel 5 (.var 2) (.var 5))))
        (.ret (.cons (.n 2) .nil))
        (.need (.t true) (.pre 66 (.cons (.sel 5 (.var 2) (.var 5)) .nil))
        (.lt (.app 66 (.cons (.sel 5 (.var 2) (.var 5)) .nil) 0) 1
        (.ret (.cons (.var 9) .nil))))))))))))))))))
theorem e46 : (fnVT Try.prog (sgOf sg46) (ltOf lt46) S46 Try.f46 c46).slim (S46.ps.map fun p => p.2.length).sum [] = vt46 := by kernel_rfl

/-! ### 67 -/
def S67 : Sig := ⟨[(true, [.str, .bool, (.sl 29 [.str, .str, (.int .i64), (.int .i64), (.int .i64), (.sl 75 [.str, (.int .i64)])]), (.sl 31 [(.int .i64), (.int .i64), (.int .i64), (.int .i64), .str, (.int .i64), (.int .i64)]), (.sl 61 [.str, (.int .i64)])]), (false, [(.int .i64)])], [(false, [(.int .i64)])], [], none⟩
noncomputable def c67 : Code := Try.f67.body.getD .skip
theorem b67 : Try.f67.body = some c67 := body_some (by kernel_rfl)
theorem n67 : (Try.f67.name == "runtime.NumGoroutine") = false := by kernel_rfl
def sg67 : List (FuncId × Sig) := []
def L67_0 : LoopSig := ⟨16700, [],
   ⟨[.any, (.c (.x (.int .i64) (.var 0))), (.c (.ptr 0 0)), .any, .any, (.c (.x (.int .i64) (.var 1))), .any, .any, .any, .any, .any, .any, .any, .any, .any, .any, .any],
    [some ⟨(.t true), (.box 26 [(.x .str (.var 2)), (.x .bool (.var 3)), (.x (.sl 29 [.str, .str, (.int .i64), (.int .i64), (.int .i64), (.sl 75 [.str, (.int .i64)])]) (.var 4)), (.x (.sl 31 [(.int .i64), (.int .i64), (.int .i64), (.int .i64), .str, (.int .i64), (.int .i64)]) (.var 5)), (.x (.sl 61 [.str, (.int .i64)]) (.var 6))] false)⟩]⟩,
   7, [0, 1], [6, 7, 8, 9, 5, 10, 11, 12, 13, 14, 15, 1], [(.exit 0)], []⟩
def lt67 : List (Nat × LoopSig) := [(2, L67_0)]
theorem k67 : (Code.loops c67).length = 1 := by kernel_rfl
noncomputable def lb67_0 : Code := (Code.loops c67).getD 0 .skip
def rt67_0 : VT :=
  (.ite (.bin .le (.n 0) (.var 0))
   (.need (.t true) (.c (.bin .lt (.var 0) (.un .len (.var 6))))
   (.ret (.cons (.n (-1)) (.cons (.sel 1 (.var 6) (.var 0)) (.cons (.bin (.add .i64) (.var 1) (.n 1)) .nil)))))
   (.ret (.cons (.n 0) (.cons (.var 0) (.cons (.var 1) .nil)))))
theorem le67_0 : (loopVT Try.prog (sgOf sg67) (ltOf lt67) L67_0 lb67_0).slim L67_0.nv [] = rt67_0 := by kernel_rfl
theorem lf67_0 : (firstRegion lb67_0).bind (ltOf lt67) = some L67_0 := by kernel_rfl
theorem lk67_0 : (Code.loops lb67_0).length = 0 := by kernel_rfl
def vt67 : VT :=
  (.need (.t true) (.pre 16700 (.cons (.var 5) (.cons (.n 0) (.cons (.var 0) (.cons (.var 1) (.cons (.var 2) (.cons (.var 3) (.cons (.var 4) .nil))))))))
  (.lt (.app 16700 (.cons (.var 5) (.cons (.n 0) (.cons (.var 0) (.cons (.var 1) (.cons (.var 2) (.cons (.var 3) (.cons (.var 4) .nil))))))) 0) 3
  (.ret (.cons (.var 8) .nil))))
theorem e67 : (fnVT Try.prog (sgOf sg67) (ltOf lt67) S67 Try.f67 c67).slim (S67.ps.map fun p => p.2.length).sum [] = vt67 := by kernel_rfl

/-! ### 47 -/
def S47 : Sig := ⟨[(true, [.str, .bool, (.sl 29 [.str, .str, (.int .i64), (.int .i64), (.int .i64), (.sl 75 [.str, (.int .i64)])]), (.sl 31 [(.int .i64), (.int .i64), (.int .i64), (.int .i64), .str, (.int .i64), (.int .i64)]), (.sl 61 [.str, (.int .i64)])]), (false, [(.int .i64)])], [(false, [(.int .i64)])], [], none⟩
noncomputable def c47 : Code := Try.f47.body.getD .skip
theorem b47 : Try.f47.body = some c47 := body_some (by kernel_rfl)
theorem n47 : (Try.f47.name == "runtime.NumGoroutine") = false := by kernel_rfl
def sg47 : List (FuncId × Sig) := [(45, S45), (64, S64), (67, S67)]
def L47_0 : LoopSig := ⟨14700, [],
   ⟨[.any, (.c (.x (.int .i64) (.var 0))), (.c (.ptr 0 0)), .any, (.c (.x (.int .i64) (.var 1))), (.c (.ptr 1 0)), (.c (.x (.int .i64) (.var 2))), .any, .any, .any, .any, .any, .any, .any, .any, .any, .any, .any, .any, .any, .any, .any, .any, .any, .any, .any, .any, .any, .any, .any, .any, .any, .any, .any, .any, .any, .any, .any, .any, .any, .any, .any, .any, .any, .any, .any, .any, .any],
    [some ⟨(.t true), (.box 26 [(.x .str (.var 3)), (.x .bool (.var 4)), (.x (.sl 29 [.str, .str, (.int .i64), (.int .i64), (.int .i64), (.sl 75 [.str, (.int .i64)])]) (.var 5)), (.x (.sl 31 [(.int .i64), (.int .i64), (.int .i64), (.int .i64), .str, (.int .i64), (.int .i64)]) (.var 6)), (.x (.sl 61 [.str, (.int .i64)]) (.var 7))] false)⟩, some ⟨(.t true), (.box 61 [(.x .str (.var 8)), (.x (.int .i64) (.var 9))] false)⟩]⟩,
   10, [1, 2], [16, 17, 18, 21, 22, 23, 24, 25, 26, 27, 28, 29, 4, 19, 20, 6], [.ret, (.exit 0)], []⟩
def lt47 : List (Nat × LoopSig) := [(5, L47_0)]
theorem k47 : (Code.loops c47).length = 1 := by kernel_rfl
noncomputable def lb47_0 : Code := (Code.loops c47).getD 0 .skip
def rt47_0 : VT :=
  (.ite (.bin .lt (.var 2) (.var 0))
   (.need (.t true) (.c (.bin .le (.n 0) (.var 2)))
   (.need (.t true) (.c (.bin .lt (.var 2) (.un .len (.var 7))))
   (.ite (.bin .seq (.sel 0 (.var 7) (.var 2)) (.var 8))
    (.ret (.cons (.n 0) (.cons (.n 6) (.cons (.var 2) .nil))))
    (.ret (.cons (.n (-1)) (.cons (.var 1) (.cons (.bin (.add .i64) (.var 2) (.n 1)) .nil)))))))
   (.ret (.cons (.n 1) (.cons (.var 1) (.cons (.var 2) .nil)))))
theorem le47_0 : (loopVT Try.prog (sgOf sg47) (ltOf lt47) L47_0 lb47_0).slim L47_0.nv [] = rt47_0 := by kernel_rfl
theorem lf47_0 : (firstRegion lb47_0).bind (ltOf lt47) = some L47_0 := by kernel_rfl
theorem lk47_0 : (Code.loops lb47_0).length = 0 := by kernel_rfl
def vt47 : VT :=
  (.need (.t true) (.c (.bin .le (.n 0) (.var 5)))
  (.need (.t true) (.c (.bin .lt (.var 5) (.un .len (.var 4))))
  (.need (.t true) (.pre 45 (.cons (.sel 0 (.var 4) (.var 5)) .nil))
  (.lt (.app 45 (.cons (.sel 0 (.var 4) (.var 5)) .nil) 0) 1
  (.ite (.un .not (.var 6))
   (.ret (.cons (.n 5) .nil))
   (.need (.t true) (.pre 14700 (.cons (.var 5) (.cons (.n 0) (.cons (.n 0) (.cons (.var 0) (.cons (.var 1) (.cons (.var 2) (.cons (.var 3) (.cons (.var 4) (.cons (.sel 0 (.var 4) (.var 5)) (.cons (.sel 1 (.var 4) (.var 5)) .nil)))))))))))
   (.lt (.app 14700 (.cons (.var 5) (.cons (.n 0) (.cons (.n 0) (.cons (.var 0) (.cons (.var 1) (.cons (.var 2) (.cons (.var 3) (.cons (.var 4) (.cons (.sel 0 (.var 4) (.var 5)) (.cons (.sel 1 (.var 4) (.var 5)) .nil)))))))))) 0) 3
   (.ite (.bin .eq (.var 7) (.n 0))
    (.ret (.cons (.var 8) .nil))
    (.need (.t true) (.pre 64 (.cons (.var 0) (.cons (.var 1) (.cons (.var 2) (.cons (.var 3) (.cons (.var 4) (.cons (.sel 0 (.var 4) (.var 5)) .nil)))))))
    (.lt (.app 64 (.cons (.var 0) (.cons (.var 1) (.cons (.var 2) (.cons (.var 3) (.cons (.var 4) (.cons (.sel 0 (.var 4) (.var 5)) .nil)))))) 0) 1
    (.ite (.bin .le (.n 0) (.var 10))
     (.ret (.cons (.n 6) .nil))
     (.ite (.ite (.bin .lt (.sel 1 (.var 4) (.var 5)) (.n (-1))) (.t true) (.bin .le (.var 5) (.sel 1 (.var 4) (.var 5))))
      (.ret (.cons (.n 3) .nil))
      (.need (.t true) (.pre 67 (.cons (.var 0) (.cons (.var 1) (.cons (.var 2) (.cons (.var 3) (.cons (.var 4) (.cons (.var 5) .nil)))))))
      (.lt (.app 67 (.cons (.var 0) (.cons (.var 1) (.cons (.var 2) (.cons (.var 3) (.cons (.var 4) (.cons (.var 5) .nil)))))) 0) 1
      (.ite (.bin .lt (.n 6) (.var 11))
       (.ret (.cons (.n 2) .nil))
       (.ret (.cons (.n 0) .nil)))))))))))))))))
theorem e47 : (fnVT Try.prog (sgOf sg47) (ltOf lt47) S47 Try.f47 c47).slim (S47.ps.map fun p => p.2.length).sum [] = vt47 := by kernel_rfl

/-! ### 48 -/
def S48 : Sig := ⟨[(true, [.str, .bool, (.sl 29 [.str, .str, (.int .i64), (.int .i64), (.int .i64), (.sl 75 [.str, (.int .i64)])]), (.sl 31 [(.int .i64), (.int .i64), (.int .i64), (.int .i64), .str, (.int .i64), (.int .i64)]), (.sl 61 [.str, (.int .i64)])]), (true, [(.int .i64), (.int .i64), (.int .i64), (.int .i64), .str, (.int .i64), (.int .i64)])], [(false, [(.int .i64)])], [], none⟩
noncomputable def c48 : Code := Try.f48.body.getD .skip
theorem b48 : Try.f48.body = some c48 := body_some (by kernel_rfl)
theorem n48 : (Try.f48.name == "runtime.NumGoroutine") = false := by kernel_rfl
def sg48 : List (FuncId × Sig) := [(65, S65)]
def lt48 : List (Nat × LoopSig) := []
theorem k48 : (Code.loops c48).length = 0 := by kernel_rfl
def vt48 : VT :=
  (.ite (.ite (.ite (.ite (.bin .lt (.var 5) (.n 0)) (.t true) (.bin .le (.un .len (.var 2)) (.var 5))) (.t true) (.bin .lt (.var 6) (.n 0))) (.t true) (.bin .le (.un .len (.var 2)) (.var 6)))
   (.ret (.cons (.n 3) .nil))
   (.need (.un .not (.bin .lt (.var 7) (.n (-1)))) (.c (.bin .le (.n 0) (.var 5)))
   (.need (.un .not (.bin .lt (.var 7) (.n (-1)))) (.c (.bin .lt (.var 5) (.un .len (.var 2))))
   (.need (.un .not (.ite (.ite (.bin .lt (.var 7) (.n (-1))) (.t true) (.bin .le (.un .len (.sel 5 (.var 2) (.var 5))) (.var 7))) (.t true) (.bin .lt (.var 8) (.n (-1))))) (.c (.bin .le (.n 0) (.var 6)))
   (.need (.un .not (.ite (.ite (.bin .lt (.var 7) (.n (-1))) (.t true) (.bin .le (.un .len (.sel 5 (.var 2) (.var 5))) (.var 7))) (.t true) (.bin .lt (.var 8) (.n (-1))))) (.c (.bin .lt (.var 6) (.un .len (.var 2))))
   (.ite (.ite (.ite (.ite (.bin .lt (.var 7) (.n (-1))) (.t true) (.bin .le (.un .len (.sel 5 (.var 2) (.var 5))) (.var 7))) (.t true) (.bin .lt (.var 8) (.n (-1)))) (.t true) (.bin .le (.un .len (.sel 5 (.var 2) (.var 6))) (.var 8)))
    (.ret (.cons (.n 3) .nil))
    (.ite (.bin .lt (.n 32) (.un .slen (.var 9)))
     (.ret (.cons (.n 2) .nil))
     (.need (.t true) (.pre 65 (.cons (.var 9) .nil))
     (.lt (.app 65 (.cons (.var 9) .nil) 0) 1
     (.ite (.ite (.ite (.ite (.ite (.un .not (.var 12)) (.t true) (.bin .lt (.var 10) (.n 1))) (.t true) (.bin .lt (.n 1000) (.var 10))) (.t true) (.bin .lt (.var 11) (.n 1))) (.t true) (.bin .lt (.n 64) (.var 11)))
      (.ret (.cons (.n 7) .nil))
      (.ret (.cons (.n 0) .nil))))))))))))
theorem e48 : (fnVT Try.prog (sgOf sg48) (ltOf lt48) S48 Try.f48 c48).slim (S48.ps.map fun p => p.2.length).sum [] = vt48 := by kernel_rfl

/-! ### 28 -/
def S28 : Sig := ⟨[(true, [.str, .bool, (.sl 29 [.str, .str, (.int .i64), (.int .i64), (.int .i64), (.sl 75 [.str, (.int .i64)])]), (.sl 31 [(.int .i64), (.int .i64), (.int .i64), (.int .i64), .str, (.int .i64), (.int .i64)]), (.sl 61 [.str, (.int .i64)])])], [(false, [(.int .i64)])], [], none⟩
noncomputable def c28 : Code := Try.f28.body.getD .skip
theorem b28 : Try.f28.body = some c28 := body_some (by kernel_rfl)
theorem n28 : (Try.f28.name == "runtime.NumGoroutine") = false := by kernel_rfl
def sg28 : List (FuncId × Sig) := [(45, S45), (46, S46), (47, S47), (48, S48)]
def L28_0 : LoopSig := ⟨12800, [],
   ⟨[.any, (.c (.ptr 0 0)), (.c (.x (.int .i64) (.var 0))), (.c (.x (.int .i64) (.var 1))), .any, .any, .any, .any, .any, .any, .any, .any, .any, .any, .any, .any, .any, .any, .any, .any, .any, .any, .any, .any, .any, .any, .any, .any, .any, .any, .any, .any, .any, .any, .any, .any, .any, .any, .any, .any, .any, .any, .any, .any, .any, .any, .any, .any, .any, .any, .any, .any, .any, .any, .any, .any, .any, .any, .any, .any, .any, .any, .any, .any, .any, .any, .any, .any, .any, .any, .any, .any],
    [some ⟨(.t true), (.box 26 [(.x .str (.var 2)), (.x .bool (.var 3)), (.x (.sl 29 [.str, .str, (.int .i64), (.int .i64), (.int .i64), (.sl 75 [.str, (.int .i64)])]) (.var 4)), (.x (.sl 31 [(.int .i64), (.int .i64), (.int .i64), (.int .i64), .str, (.int .i64), (.int .i64)]) (.var 5)), (.x (.sl 61 [.str, (.int .i64)]) (.var 6))] false)⟩]⟩,
   7, [0, 1], [29, 30, 31, 32, 33, 36, 37, 38, 4, 39, 40, 41, 2, 34, 35, 3], [.ret, (.exit 0)], []⟩
def L28_1 : LoopSig := ⟨12801, [],
   ⟨[.any, (.c (.ptr 0 0)), (.c (.x (.int .i64) (.var 0))), .any, .any, (.c (.x (.int .i64) (.var 1))), .any, .any, .any, .any, .any, .any, .any, .any, .any, .any, .any, .any, .any, .any, .any, .any, .any, .any, .any, .any, .any, .any, .any, .any, .any, .any, .any, .any, .any, .any, .any, .any, .any, .any, .any, .any, .any, .any, .any, .any, .any, .any, .any, .any, .any, .any, .any, .any, .any, .any, .any, .any, .any, .any, .any, .any, .any, .any, .any, .any, .any, .any, .any, .any, .any, .any],
    [some ⟨(.t true), (.box 26 [(.x .str (.var 2)), (.x .bool (.var 3)), (.x (.sl 29 [.str, .str, (.int .i64), (.int .i64), (.int .i64), (.sl 75 [.str, (.int .i64)])]) (.var 4)), (.x (.sl 31 [(.int .i64), (.int .i64), (.int .i64), (.int .i64), .str, (.int .i64), (.int .i64)]) (.var 5)), (.x (.sl 61 [.str, (.int .i64)]) (.var 6))] false)⟩]⟩,
   7, [0, 1], [42, 43, 44, 45, 46, 49, 50, 51, 6, 52, 53, 54, 2, 47, 48, 5], [.ret, (.exit 2)], []⟩
def L28_2 : LoopSig := ⟨12802, [],
   ⟨[.any, (.c (.ptr 0 0)), (.c (.x (.int .i64) (.var 0))), .any, .any, .any, .any, (.c (.x (.int .i64) (.var 1))), .any, .any, .any, .any, .any, .any, .any, .any, .any, .any, .any, .any, .any, .any, .any, .any, .any, .any, .any, .any, .any, .any, .any, .any, .any, .any, .any, .any, .any, .any, .any, .any, .any, .any, .any, .any, .any, .any, .any, .any, .any, .any, .any, .any, .any, .any, .any, .any, .any, .any, .any, .any, .any, .any, .any, .any, .any, .any, .any, .any, .any, .any, .any, .any],
    [some ⟨(.t true), (.box 26 [(.x .str (.var 2)), (.x .bool (.var 3)), (.x (.sl 29 [.str, .str, (.int .i64), (.int .i64), (.int .i64), (.sl 75 [.str, (.int .i64)])]) (.var 4)), (.x (.sl 31 [(.int .i64), (.int .i64), (.int .i64), (.int .i64), .str, (.int .i64), (.int .i64)]) (.var 5)), (.x (.sl 61 [.str, (.int .i64)]) (.var 6))] false)⟩]⟩,
   7, [0, 1], [55, 56, 57, 58, 59, 62, 63, 64, 65, 66, 67, 68, 8, 69, 70, 71, 2, 60, 61, 7], [.ret, (.exit 4)], []⟩
def lt28 : List (Nat × LoopSig) := [(6, L28_0), (12, L28_1), (18, L28_2)]
theorem k28 : (Code.loops c28).length = 3 := by kernel_rfl
noncomputable def lb28_0 : Code := (Code.loops c28).getD 0 .skip
noncomputable def lb28_1 : Code := (Code.loops c28).getD 1 .skip
noncomputable def lb28_2 : Code := (Code.loops c28).getD 2 .skip
def rt28_0 : VT :=
  (.ite (.bin .lt (.var 1) (.un .len (.var 4)))
   (.need (.t true) (.pre 46 (.cons (.var 2) (.cons (.var 3) (.cons (.var 4) (.cons (.var 5) (.cons (.var 6) (.cons (.var 1) .nil)))))))
   (.lt (.app 46 (.cons (.var 2) (.cons (.var 3) (.cons (.var 4) (.cons (.var 5) (.cons (.var 6) (.cons (.var 1) .nil)))))) 0) 1
   (.ite (.un .not (.bin .eq (.var 7) (.n 0)))
    (.ret (.cons (.n 0) (.cons (.var 7) (.cons (.var 1) .nil))))
    (.ret (.cons (.n (-1)) (.cons (.var 0) (.cons (.bin (.add .i64) (.var 1) (.n 1)) .nil)))))))
   (.ret (.cons (.n 1) (.cons (.var 0) (.cons (.var 1) .nil)))))
theorem le28_0 : (loopVT Try.prog (sgOf sg28) (ltOf lt28) L28_0 lb28_0).slim L28_0.nv [] = rt28_0 := by kernel_rfl
theorem lf28_0 : (firstRegion lb28_0).bind (ltOf lt28) = some L28_0 := by kernel_rfl
theorem lk28_0 : (Code.loops lb28_0).length = 0 := by kernel_rfl
def rt28_1 : VT :=
  (.ite (.bin .lt (.var 1) (.un .len (.var 6)))
   (.need (.t true) (.pre 47 (.cons (.var 2) (.cons (.var 3) (.cons (.var 4) (.cons (.var 5) (.cons (.var 6) (.cons (.var 1) .nil)))))))
   (.lt (.app 47 (.cons (.var 2) (.cons (.var 3) (.cons (.var 4) (.cons (.var 5) (.cons (.var 6) (.cons (.var 1) .nil)))))) 0) 1
   (.ite (.un .not (.bin .eq (.var 7) (.n 0)))
    (.ret (.cons (.n 0) (.cons (.var 7) (.cons (.var 1) .nil))))
    (.ret (.cons (.n (-1)) (.cons (.var 0) (.cons (.bin (.add .i64) (.var 1) (.n 1)) .nil)))))))
   (.ret (.cons (.n 1) (.cons (.var 0) (.cons (.var 1) .nil)))))
theorem le28_1 : (loopVT Try.prog (sgOf sg28) (ltOf lt28) L28_1 lb28_1).slim L28_1.nv [] = rt28_1 := by kernel_rfl
theorem lf28_1 : (firstRegion lb28_1).bind (ltOf lt28) = some L28_1 := by kernel_rfl
theorem lk28_1 : (Code.loops lb28_1).length = 0 := by kernel_rfl
def rt28_2 : VT :=
  (.ite (.bin .lt (.var 1) (.un .len (.var 5)))
   (.need (.t true) (.c (.bin .le (.n 0) (.var 1)))
   (.need (.t true) (.pre 48 (.cons (.var 2) (.cons (.var 3) (.cons (.var 4) (.cons (.var 5) (.cons (.var 6) (.cons (.sel 0 (.var 5) (.var 1)) (.cons (.sel 1 (.var 5) (.var 1)) (.cons (.sel 2 (.var 5) (.var 1)) (.cons (.sel 3 (.var 5) (.var 1)) (.cons (.sel 4 (.var 5) (.var 1)) (.cons (.sel 5 (.var 5) (.var 1)) (.cons (.sel 6 (.var 5) (.var 1)) .nil)))))))))))))
   (.lt (.app 48 (.cons (.var 2) (.cons (.var 3) (.cons (.var 4) (.cons (.var 5) (.cons (.var 6) (.cons (.sel 0 (.var 5) (.var 1)) (.cons (.sel 1 (.var 5) (.var 1)) (.cons (.sel 2 (.var 5) (.var 1)) (.cons (.sel 3 (.var 5) (.var 1)) (.cons (.sel 4 (.var 5) (.var 1)) (.cons (.sel 5 (.var 5) (.var 1)) (.cons (.sel 6 (.var 5) (.var 1)) .nil)))))))))))) 0) 1
   (.ite (.un .not (.bin .eq (.var 7) (.n 0)))
    (.ret (.cons (.n 0) (.cons (.var 7) (.cons (.var 1) .nil))))
    (.ret (.cons (.n (-1)) (.cons (.var 0) (.cons (.bin (.add .i64) (.var 1) (.n 1)) .nil))))))))
   (.ret (.cons (.n 1) (.cons (.var 0) (.cons (.var 1) .nil)))))
theorem le28_2 : (loopVT Try.prog (sgOf sg28) (ltOf lt28) L28_2 lb28_2).slim L28_2.nv [] = rt28_2 := by kernel_rfl
theorem lf28_2 : (firstRegion lb28_2).bind (ltOf lt28) = some L28_2 := by kernel_rfl
theorem lk28_2 : (Code.loops lb28_2).length = 0 := by kernel_rfl
def vt28 : VT :=
  (.ite (.ite (.ite (.bin .lt (.n 64) (.un .len (.var 2))) (.t true) (.bin .lt (.n 256) (.un .len (.var 3)))) (.t true) (.bin .lt (.n 16) (.un .len (.var 4))))
   (.ret (.cons (.n 2) .nil))
   (.need (.t true) (.pre 45 (.cons (.var 0) .nil))
   (.lt (.app 45 (.cons (.var 0) .nil) 0) 1
   (.ite (.un .not (.var 5))
    (.ret (.cons (.n 5) .nil))
    (.need (.t true) (.pre 12800 (.cons (.n 0) (.cons (.n 0) (.cons (.var 0) (.cons (.var 1) (.cons (.var 2) (.cons (.var 3) (.cons (.var 4) .nil))))))))
    (.lt (.app 12800 (.cons (.n 0) (.cons (.n 0) (.cons (.var 0) (.cons (.var 1) (.cons (.var 2) (.cons (.var 3) (.cons (.var 4) .nil))))))) 0) 3
    (.ite (.bin .eq (.var 6) (.n 0))
     (.ret (.cons (.var 7) .nil))
     (.need (.t true) (.pre 12801 (.cons (.var 7) (.cons (.n 0) (.cons (.var 0) (.cons (.var 1) (.cons (.var 2) (.cons (.var 3) (.cons (.var 4) .nil))))))))
     (.lt (.app 12801 (.cons (.var 7) (.cons (.n 0) (.cons (.var 0) (.cons (.var 1) (.cons (.var 2) (.cons (.var 3) (.cons (.var 4) .nil))))))) 0) 3
     (.ite (.bin .eq (.var 9) (.n 0))
      (.ret (.cons (.var 10) .nil))
      (.need (.t true) (.pre 12802 (.cons (.var 10) (.cons (.n 0) (.cons (.var 0) (.cons (.var 1) (.cons (.var 2) (.cons (.var 3) (.cons (.var 4) .nil))))))))
      (.lt (.app 12802 (.cons (.var 10) (.cons (.n 0) (.cons (.var 0) (.cons (.var 1) (.cons (.var 2) (.cons (.var 3) (.cons (.var 4) .nil))))))) 0) 3
      (.ite (.bin .eq (.var 12) (.n 0))
       (.ret (.cons (.var 13) .nil))
       (.ret (.cons (.n 0) .nil)))))))))))))))
theorem e28 : (fnVT Try.prog (sgOf sg28) (ltOf lt28) S28 Try.f28 c28).slim (S28.ps.map fun p => p.2.length).sum [] = vt28 := by kernel_rfl

/-! ### 49 -/
def S49 : Sig := ⟨[(true, [(.int .i64), (.int .i64), (.int .i64), (.int .i64), .str, (.int .i64), (.int .i64)])], [(false, [.bool])], [], none⟩
noncomputable def c49 : Code := Try.f49.body.getD .skip
theorem b49 : Try.f49.body = some c49 := body_some (by kernel_rfl)
theorem n49 : (Try.f49.name == "runtime.NumGoroutine") = false := by kernel_rfl
def sg49 : List (FuncId × Sig) := []
def lt49 : List (Nat × LoopSig) := []
theorem k49 : (Code.loops c49).length = 0 := by kernel_rfl
def vt49 : VT :=
  (.ret (.cons (.ite (.bin .eq (.var 0) (.n 0)) (.ite (.bin .eq (.var 1) (.n 0)) (.ite (.bin .eq (.var 2) (.n 0)) (.ite (.bin .eq (.var 3) (.n 0)) (.ite (.bin .seq (.var 4) (.str ⟨#[]⟩)) (.ite (.bin .eq (.var 5) (.n 0)) (.bin .eq (.var 6) (.n 0)) (.t false)) (.t false)) (.t false)) (.t false)) (.t false)) (.t false)) .nil))
theorem e49 : (fnVT Try.prog (sgOf sg49) (ltOf lt49) S49 Try.f49 c49).slim (S49.ps.map fun p => p.2.length).sum [] = vt49 := by kernel_rfl
def T49 : FuncId → List D → List D := tabOf []
def fn49 (ρ : List D) : List D := vt49.val T49 ρ
theorem m49 : Meets Try.prog 49 S49 (fun _ => True) fn49 := meets_easy (sgl := sg49) (Φ := T49) mixed ((fun _ h => nomatch h)) Try.func49 b49 n49 k49 e49 (by kernel_rfl)

/-! ### 50 -/
def S50 : Sig := ⟨[(true, [.str, .str, (.int .i64), (.int .i64), (.int .i64), (.sl 75 [.str, (.int .i64)])])], [(false, [.bool])], [], none⟩
noncomputable def c50 : Code := Try.f50.body.getD .skip
theorem b50 : Try.f50.body = some c50 := body_some (by kernel_rfl)
theorem n50 : (Try.f50.name == "runtime.NumGoroutine") = false := by kernel_rfl
def sg50 : List (FuncId × Sig) := []
def lt50 : List (Nat × LoopSig) := []
theorem k50 : (Code.loops c50).length = 0 := by kernel_rfl
def vt50 : VT :=
  (.ret (.cons (.ite (.ite (.ite (.ite (.ite (.bin .seq (.var 0) (.str ⟨#[]⟩)) (.bin .seq (.var 1) (.str ⟨#[]⟩)) (.t false)) (.bin .eq (.var 2) (.n 0)) (.t false)) (.bin .eq (.var 3) (.n 0)) (.t false)) (.bin .eq (.var 4) (.n 0)) (.t false)) (.bin .eq (.un .len (.var 5)) (.n 0)) (.t false)) .nil))
theorem e50 : (fnVT Try.prog (sgOf sg50) (ltOf lt50) S50 Try.f50 c50).slim (S50.ps.map fun p => p.2.length).sum [] = vt50 := by kernel_rfl
def T50 : FuncId → List D → List D := tabOf []
def fn50 (ρ : List D) : List D := vt50.val T50 ρ
theorem m50 : Meets Try.prog 50 S50 (fun _ => True) fn50 := meets_easy (sgl := sg50) (Φ := T50) mixed ((fun _ h => nomatch h)) Try.func50 b50 n50 k50 e50 (by kernel_rfl)

/-! ### 29 -/
def S29 : Sig := ⟨[(true, [(.int .i64), (.int .i64), .str, .str, (.int .i64), (.int .i64), (.int .i64), (.sl 75 [.str, (.int .i64)]), (.int .i64), (.int .i64), (.int .i64), (.int .i64), .str, (.int .i64), (.int .i64)])], [(false, [.bool])], [], none⟩
noncomputable def c29 : Code := Try.f29.body.getD .skip
theorem b29 : Try.f29.body = some c29 := body_some (by kernel_rfl)
theorem n29 : (Try.f29.name == "runtime.NumGoroutine") = false := by kernel_rfl
def sg29 : List (FuncId × Sig) := [(49, S49), (50, S50)]
def lt29 : List (Nat × LoopSig) := []
theorem k29 : (Code.loops c29).length = 0 := by kernel_rfl
def vt29 : VT :=
  (.ite (.bin .eq (.var 0) (.n 1))
   (.need (.bin .eq (.var 1) (.n 0)) (.pre 49 (.cons (.var 8) (.cons (.var 9) (.cons (.var 10) (.cons (.var 11) (.cons (.var 12) (.cons (.var 13) (.cons (.var 14) .nil))))))))
   (.lt (.app 49 (.cons (.var 8) (.cons (.var 9) (.cons (.var 10) (.cons (.var 11) (.cons (.var 12) (.cons (.var 13) (.cons (.var 14) .nil))))))) 0) 1
   (.ret (.cons (.ite (.bin .eq (.var 1) (.n 0)) (.var 15) (.t false)) .nil))))
   (.ite (.bin .eq (.var 0) (.n 3))
    (.need (.bin .eq (.var 1) (.n 0)) (.pre 50 (.cons (.var 2) (.cons (.var 3) (.cons (.var 4) (.cons (.var 5) (.cons (.var 6) (.cons (.var 7) .nil)))))))
    (.lt (.app 50 (.cons (.var 2) (.cons (.var 3) (.cons (.var 4) (.cons (.var 5) (.cons (.var 6) (.cons (.var 7) .nil)))))) 0) 1
    (.ret (.cons (.ite (.bin .eq (.var 1) (.n 0)) (.var 15) (.t false)) .nil))))
    (.ite (.bin .eq (.var 0) (.n 2))
     (.need (.t true) (.pre 50 (.cons (.var 2) (.cons (.var 3) (.cons (.var 4) (.cons (.var 5) (.cons (.var 6) (.cons (.var 7) .nil)))))))
     (.lt (.app 50 (.cons (.var 2) (.cons (.var 3) (.cons (.var 4) (.cons (.var 5) (.cons (.var 6) (.cons (.var 7) .nil)))))) 0) 1
     (.need (.var 15) (.pre 49 (.cons (.var 8) (.cons (.var 9) (.cons (.var 10) (.cons (.var 11) (.cons (.var 12) (.cons (.var 13) (.cons (.var 14) .nil))))))))
     (.lt (.app 49 (.cons (.var 8) (.cons (.var 9) (.cons (.var 10) (.cons (.var 11) (.cons (.var 12) (.cons (.var 13) (.cons (.var 14) .nil))))))) 0) 1
     (.ret (.cons (.ite (.var 15) (.var 16) (.t false)) .nil))))))
     (.ite (.bin .eq (.var 0) (.n 4))
      (.need (.t true) (.pre 50 (.cons (.var 2) (.cons (.var 3) (.cons (.var 4) (.cons (.var 5) (.cons (.var 6) (.cons (.var 7) .nil)))))))
      (.lt (.app 50 (.cons (.var 2) (.cons (.var 3) (.cons (.var 4) (.cons (.var 5) (.cons (.var 6) (.cons (.var 7) .nil)))))) 0) 1
      (.need (.var 15) (.pre 49 (.cons (.var 8) (.cons (.var 9) (.cons (.var 10) (.cons (.var 11) (.cons (.var 12) (.cons (.var 13) (.cons (.var 14) .nil))))))))
      (.lt (.app 49 (.cons (.var 8) (.cons (.var 9) (.cons (.var 10) (.cons (.var 11) (.cons (.var 12) (.cons (.var 13) (.cons (.var 14) .nil))))))) 0) 1
      (.ret (.cons (.ite (.var 15) (.var 16) (.t false)) .nil))))))
      (.ite (.bin .eq (.var 0) (.n 5))
       (.need (.t true) (.pre 50 (.cons (.var 2) (.cons (.var 3) (.cons (.n 0) (.cons (.n 0) (.cons (.var 6) (.cons (.var 7) .nil)))))))
       (.lt (.app 50 (.cons (.var 2) (.cons (.var 3) (.cons (.n 0) (.cons (.n 0) (.cons (.var 6) (.cons (.var 7) .nil)))))) 0) 1
       (.need (.var 15) (.pre 49 (.cons (.var 8) (.cons (.var 9) (.cons (.var 10) (.cons (.var 11) (.cons (.var 12) (.cons (.var 13) (.cons (.var 14) .nil))))))))
       (.lt (.app 49 (.cons (.var 8) (.cons (.var 9) (.cons (.var 10) (.cons (.var 11) (.cons (.var 12) (.cons (.var 13) (.cons (.var 14) .nil))))))) 0) 1
       (.ret (.cons (.ite (.var 15) (.var 16) (.t false)) .nil))))))
       (.ite (.bin .eq (.var 0) (.n 6))
        (.need (.t true) (.pre 50 (.cons (.var 2) (.cons (.str ⟨#[]⟩) (.cons (.var 4) (.cons (.var 5) (.cons (.var 6) (.cons (.var 7) .nil)))))))
        (.lt (.app 50 (.cons (.var 2) (.cons (.str ⟨#[]⟩) (.cons (.var 4) (.cons (.var 5) (.cons (.var 6) (.cons (.var 7) .nil)))))) 0) 1
        (.need (.var 15) (.pre 49 (.cons (.var 8) (.cons (.var 9) (.cons (.var 10) (.cons (.var 11) (.cons (.var 12) (.cons (.var 13) (.cons (.var 14) .nil))))))))
        (.lt (.app 49 (.cons (.var 8) (.cons (.var 9) (.cons (.var 10) (.cons (.var 11) (.cons (.var 12) (.cons (.var 13) (.cons (.var 14) .nil))))))) 0) 1
        (.ret (.cons (.ite (.var 15) (.var 16) (.t false)) .nil))))))
        (.ret (.cons (.t false) .nil))))))))
theorem e29 : (fnVT Try.prog (sgOf sg29) (ltOf lt29) S29 Try.f29 c29).slim (S29.ps.map fun p => p.2.length).sum [] = vt29 := by kernel_rfl
def T29 : FuncId → List D → List D := tabOf [(49, fn49), (50, fn50)]
def fn29 (ρ : List D) : List D := vt29.val T29 ρ
theorem m29 : Meets Try.prog 29 S29 (fun _ => True) fn29 := meets_easy (sgl := sg29) (Φ := T29) mixed (List.forall_mem_cons.2 ⟨m49, List.forall_mem_cons.2 ⟨m50, (fun _ h => nomatch h)⟩⟩) Try.func29 b29 n29 k29 e29 (by kernel_rfl)

/-! ### 30 -/
def S30 : Sig := ⟨[(true, [.str, .bool, (.sl 29 [.str, .str, (.int .i64), (.int .i64), (.int .i64), (.sl 75 [.str, (.int .i64)])]), (.sl 31 [(.int .i64), (.int .i64), (.int .i64), (.int .i64), .str, (.int .i64), (.int .i64)]), (.sl 61 [.str, (.int .i64)])]), (true, [(.int .i64), (.int .i64), .str, .str, (.int .i64), (.int .i64), (.int .i64), (.sl 75 [.str, (.int .i64)]), (.int .i64), (.int .i64), (.int .i64), (.int .i64), .str, (.int .i64), (.int .i64)])], [(false, [.bool])], [], none⟩
noncomputable def c30 : Code := Try.f30.body.getD .skip
theorem b30 : Try.f30.body = some c30 := body_some (by kernel_rfl)
theorem n30 : (Try.f30.name == "runtime.NumGoroutine") = false := by kernel_rfl
def sg30 : List (FuncId × Sig) := []
def lt30 : List (Nat × LoopSig) := []
theorem k30 : (Code.loops c30).length = 0 := by kernel_rfl
def vt30 : VT :=
  (.ite (.bin .eq (.var 5) (.n 1))
   (.ret (.cons (.t true) .nil))
   (.ite (.bin .eq (.var 5) (.n 3))
    (.ret (.cons (.t true) .nil))
    (.ite (.bin .eq (.var 5) (.n 4))
     (.ret (.cons (.ite (.bin .le (.n 0) (.var 6)) (.bin .lt (.var 6) (.un .len (.var 3))) (.t false)) .nil))
     (.ret (.cons (.ite (.bin .le (.n 0) (.var 6)) (.bin .lt (.var 6) (.un .len (.var 2))) (.t false)) .nil)))))
theorem e30 : (fnVT Try.prog (sgOf sg30) (ltOf lt30) S30 Try.f30 c30).slim (S30.ps.map fun p => p.2.length).sum [] = vt30 := by kernel_rfl
def T30 : FuncId → List D → List D := tabOf []
def fn30 (ρ : List D) : List D := vt30.val T30 ρ
theorem m30 : Meets Try.prog 30 S30 (fun _ => True) fn30 := meets_easy (sgl := sg30) (Φ := T30) mixed ((fun _ h => nomatch h)) Try.func30 b30 n30 k30 e30 (by kernel_rfl)

/-! ### 68 -/
def S68 : Sig := ⟨[(false, [(.int .i64)]), (false, [(.int .i64)])], [(false, [(.int .i64)])], [], none⟩
noncomputable def c68 : Code := Try.f68.body.getD .skip
theorem b68 : Try.f68.body = some c68 := body_some (by kernel_rfl)
theorem n68 : (Try.f68.name == "runtime.NumGoroutine") = false := by kernel_rfl
def sg68 : List (FuncId × Sig) := []
def lt68 : List (Nat × LoopSig) := []
theorem k68 : (Code.loops c68).length = 0 := by kernel_rfl
def vt68 : VT :=
  (.ite (.bin .lt (.var 1) (.var 0))
   (.ret (.cons (.bin (.sub .i64) (.var 0) (.n 1)) .nil))
   (.ret (.cons (.var 0) .nil)))
theorem e68 : (fnVT Try.prog (sgOf sg68) (ltOf lt68) S68 Try.f68 c68).slim (S68.ps.map fun p => p.2.length).sum [] = vt68 := by kernel_rfl
def T68 : FuncId → List D → List D := tabOf []
def fn68 (ρ : List D) : List D := vt68.val T68 ρ
theorem m68 : Meets Try.prog 68 S68 (fun _ => True) fn68 := meets_easy (sgl := sg68) (Φ := T68) mixed ((fun _ h => nomatch h)) Try.func68 b68 n68 k68 e68 (by kernel_rfl)

/-! ### 51 -/
def S51 : Sig := ⟨[(true, [.str, .bool, (.sl 29 [.str, .str, (.int .i64), (.int .i64), (.int .i64), (.sl 75 [.str, (.int .i64)])]), (.sl 31 [(.int .i64), (.int .i64), (.int .i64), (.int .i64), .str, (.int .i64), (.int .i64)]), (.sl 61 [.str, (.int .i64)])]), (false, [(.int .i64)])], [(true, [.str, .bool, (.sl 29 [.str, .str, (.int .i64), (.int .i64), (.int .i64), (.sl 75 [.str, (.int .i64)])]), (.sl 31 [(.int .i64), (.int .i64), (.int .i64), (.int .i64), .str, (.int .i64), (.int .i64)]), (.sl 61 [.str, (.int .i64)])])], [], none⟩
noncomputable def c51 : Code := Try.f51.body.getD .skip
theorem b51 : Try.f51.body = some c51 := body_some (by kernel_rfl)
theorem n51 : (Try.f51.name == "runtime.NumGoroutine") = false := by kernel_rfl
def sg51 : List (FuncId × Sig) := [(68, S68)]
def L51_0 : LoopSig := ⟨15100, [(1, some 2, 29), (1, some 3, 31), (1, some 4, 61), (2, some 2, 29), (2, some 3, 31)],
   ⟨[.any, (.c (.x (.int .i64) (.var 0))), (.c (.ptr 0 0)), .any, .any, (.c (.ptr 2 0)), (.c (.x (.int .i64) (.var 1))), .any, .any, .any, .any, .any, .any, .any, .any, .any, .any, .any, .any, .any, .any, .any, .any, .any, .any, .any, .any, .any, .any, .any, .any, .any, .any, .any, .any, .any, .any, .any, .any, .any, .any, .any, .any, .any, .any, .any, .any, .any, .any, .any, .any, .any, .any, .any, .any, .any, .any, .any, .any, .any, .any, .any, .any, .any, .any, .any, .any, .any, .any, .any, .any, .any, .any, .any, .any],
    [some ⟨(.t true), (.box 26 [(.x .str (.var 2)), (.x .bool (.var 3)), (.x (.sl 29 [.str, .str, (.int .i64), (.int .i64), (.int .i64), (.sl 75 [.str, (.int .i64)])]) (.var 4)), (.x (.sl 31 [(.int .i64), (.int .i64), (.int .i64), (.int .i64), .str, (.int .i64), (.int .i64)]) (.var 5)), (.x (.sl 61 [.str, (.int .i64)]) (.var 6))] false)⟩, none, some ⟨(.t true), (.box 26 [(.x .str (.var 7)), (.x .bool (.var 8)), (.row 6 1), (.row 7 1), (.x (.sl 61 [.str, (.int .i64)]) (.var 9))] false)⟩, none, none, none, some ⟨(.t true), (.row 29 [.str, .str, (.int .i64), (.int .i64), (.int .i64), (.sl 75 [.str, (.int .i64)])] (.var 10) 1 false)⟩, some ⟨(.t true), (.row 31 [(.int .i64), (.int .i64), (.int .i64), (.int .i64), .str, (.int .i64), (.int .i64)] (.var 11) 1 false)⟩]⟩,
   12, [1, 10], [16, 17, 18, 19, 20, 23, 24, 25, 26, 27, 28, 29, 30, 31, 32, 33, 34, 35, 21, 22, 6], [(.exit 0)], [10]⟩
def L51_1 : LoopSig := ⟨15101, [],
   ⟨[.any, (.c (.x (.int .i64) (.var 0))), (.c (.ptr 0 0)), .any, .any, (.c (.ptr 2 0)), .any, (.c (.x (.int .i64) (.var 1))), .any, .any, .any, .any, .any, .any, .any, .any, .any, .any, .any, .any, .any, .any, .any, .any, .any, .any, .any, .any, .any, .any, .any, .any, .any, .any, .any, .any, .any, .any, .any, .any, .any, .any, .any, .any, .any, .any, .any, .any, .any, .any, .any, .any, .any, .any, .any, .any, .any, .any, .any, .any, .any, .any, .any, .any, .any, .any, .any, .any, .any, .any, .any, .any, .any, .any, .any],
    [some ⟨(.t true), (.box 26 [(.x .str (.var 2)), (.x .bool (.var 3)), (.x (.sl 29 [.str, .str, (.int .i64), (.int .i64), (.int .i64), (.sl 75 [.str, (.int .i64)])]) (.var 4)), (.x (.sl 31 [(.int .i64), (.int .i64), (.int .i64), (.int .i64), .str, (.int .i64), (.int .i64)]) (.var 5)), (.x (.sl 61 [.str, (.int .i64)]) (.var 6))] false)⟩, none, some ⟨(.t true), (.box 26 [(.x .str (.var 7)), (.x .bool (.var 8)), (.row 6 1), (.row 7 1), (.x (.sl 61 [.str, (.int .i64)]) (.var 9))] false)⟩, none, none, none, some ⟨(.t true), (.row 29 [.str, .str, (.int .i64), (.int .i64), (.int .i64), (.sl 75 [.str, (.int .i64)])] (.var 10) 1 false)⟩, some ⟨(.t true), (.row 31 [(.int .i64), (.int .i64), (.int .i64), (.int .i64), .str, (.int .i64), (.int .i64)] (.var 11) 1 false)⟩]⟩,
   12, [1, 11], [36, 37, 38, 39, 40, 43, 44, 45, 46, 47, 8, 48, 49, 50, 51, 52, 53, 54, 55, 56, 57, 58, 59, 60, 61, 62, 63, 64, 65, 66, 67, 68, 69, 70, 71, 72, 73, 41, 42, 7], [(.exit 2)], [11]⟩
def lt51 : List (Nat × LoopSig) := [(3, L51_0), (8, L51_1)]
theorem k51 : (Code.loops c51).length = 2 := by kernel_rfl
noncomputable def lb51_0 : Code := (Code.loops c51).getD 0 .skip
noncomputable def lb51_1 : Code := (Code.loops c51).getD 1 .skip
def rt51_0 : VT :=
  (.ite (.bin .lt (.var 1) (.un .len (.var 4)))
   (.ite (.un .not (.bin .eq (.var 1) (.var 0)))
    (.need (.t true) (.c (.bin .le (.n 0) (.var 1)))
    (.need (.t true) (.c (.bin .le (.un .len (.bin .cat (.var 10) (.lcons (.cons (.sel 0 (.var 4) (.var 1)) (.cons (.sel 1 (.var 4) (.var 1)) (.cons (.sel 2 (.var 4) (.var 1)) (.cons (.sel 3 (.var 4) (.var 1)) (.cons (.sel 4 (.var 4) (.var 1)) (.cons (.sel 5 (.var 4) (.var 1)) .nil)))))) .lnil))) (.n 1759218604441)))
    (.ret (.cons (.n (-1)) (.cons (.bin (.add .i64) (.var 1) (.n 1)) (.cons (.bin .cat (.var 10) (.lcons (.cons (.sel 0 (.var 4) (.var 1)) (.cons (.sel 1 (.var 4) (.var 1)) (.cons (.sel 2 (.var 4) (.var 1)) (.cons (.sel 3 (.var 4) (.var 1)) (.cons (.sel 4 (.var 4) (.var 1)) (.cons (.sel 5 (.var 4) (.var 1)) .nil)))))) .lnil)) .nil))))))
    (.ret (.cons (.n (-1)) (.cons (.bin (.add .i64) (.var 1) (.n 1)) (.cons (.var 10) .nil)))))
   (.ret (.cons (.n 0) (.cons (.var 1) (.cons (.var 10) .nil)))))
theorem le51_0 : (loopVT Try.prog (sgOf sg51) (ltOf lt51) L51_0 lb51_0).slim L51_0.nv [] = rt51_0 := by kernel_rfl
theorem lf51_0 : (firstRegion lb51_0).bind (ltOf lt51) = some L51_0 := by kernel_rfl
theorem lk51_0 : (Code.loops lb51_0).length = 0 := by kernel_rfl
def rt51_1 : VT :=
  (.ite (.bin .lt (.var 1) (.un .len (.var 5)))
   (.need (.t true) (.c (.bin .le (.n 0) (.var 1)))
   (.ite (.ite (.bin .eq (.sel 0 (.var 5) (.var 1)) (.var 0)) (.t true) (.bin .eq (.sel 1 (.var 5) (.var 1)) (.var 0)))
    (.ret (.cons (.n (-1)) (.cons (.bin (.add .i64) (.var 1) (.n 1)) (.cons (.var 11) .nil))))
    (.need (.t true) (.pre 68 (.cons (.sel 0 (.var 5) (.var 1)) (.cons (.var 0) .nil)))
    (.lt (.app 68 (.cons (.sel 0 (.var 5) (.var 1)) (.cons (.var 0) .nil)) 0) 1
    (.need (.t true) (.pre 68 (.cons (.sel 1 (.var 5) (.var 1)) (.cons (.var 0) .nil)))
    (.lt (.app 68 (.cons (.sel 1 (.var 5) (.var 1)) (.cons (.var 0) .nil)) 0) 1
    (.need (.t true) (.c (.bin .le (.un .len (.bin .cat (.var 11) (.lcons (.cons (.var 12) (.cons (.var 13) (.cons (.sel 2 (.var 5) (.var 1)) (.cons (.sel 3 (.var 5) (.var 1)) (.cons (.sel 4 (.var 5) (.var 1)) (.cons (.sel 5 (.var 5) (.var 1)) (.cons (.sel 6 (.var 5) (.var 1)) .nil))))))) .lnil))) (.n 2199023255552)))
    (.ret (.cons (.n (-1)) (.cons (.bin (.add .i64) (.var 1) (.n 1)) (.cons (.bin .cat (.var 11) (.lcons (.cons (.var 12) (.cons (.var 13) (.cons (.sel 2 (.var 5) (.var 1)) (.cons (.sel 3 (.var 5) (.var 1)) (.cons (.sel 4 (.var 5) (.var 1)) (.cons (.sel 5 (.var 5) (.var 1)) (.cons (.sel 6 (.var 5) (.var 1)) .nil))))))) .lnil)) .nil)))))))))))
   (.ret (.cons (.n 0) (.cons (.var 1) (.cons (.var 11) .nil)))))
theorem le51_1 : (loopVT Try.prog (sgOf sg51) (ltOf lt51) L51_1 lb51_1).slim L51_1.nv [] = rt51_1 := by kernel_rfl
theorem lf51_1 : (firstRegion lb51_1).bind (ltOf lt51) = some L51_1 := by kernel_rfl
theorem lk51_1 : (Code.loops lb51_1).length = 0 := by kernel_rfl
def vt51 : VT :=
  (.need (.t true) (.pre 15100 (.cons (.var 5) (.cons (.n 0) (.cons (.var 0) (.cons (.var 1) (.cons (.var 2) (.cons (.var 3) (.cons (.var 4) (.cons (.var 0) (.cons (.var 1) (.cons (.var 4) (.cons .lnil (.cons .lnil .nil)))))))))))))
  (.lt (.app 15100 (.cons (.var 5) (.cons (.n 0) (.cons (.var 0) (.cons (.var 1) (.cons (.var 2) (.cons (.var 3) (.cons (.var 4) (.cons (.var 0) (.cons (.var 1) (.cons (.var 4) (.cons .lnil (.cons .lnil .nil)))))))))))) 0) 3
  (.need (.t true) (.pre 15101 (.cons (.var 5) (.cons (.n 0) (.cons (.var 0) (.cons (.var 1) (.cons (.var 2) (.cons (.var 3) (.cons (.var 4) (.cons (.var 0) (.cons (.var 1) (.cons (.var 4) (.cons (.var 8) (.cons .lnil .nil)))))))))))))
  (.lt (.app 15101 (.cons (.var 5) (.cons (.n 0) (.cons (.var 0) (.cons (.var 1) (.cons (.var 2) (.cons (.var 3) (.cons (.var 4) (.cons (.var 0) (.cons (.var 1) (.cons (.var 4) (.cons (.var 8) (.cons .lnil .nil)))))))))))) 0) 3
  (.ret (.cons (.var 0) (.cons (.var 1) (.cons (.var 8) (.cons (.var 11) (.cons (.var 4) .nil))))))))))
theorem e51 : (fnVT Try.prog (sgOf sg51) (ltOf lt51) S51 Try.f51 c51).slim (S51.ps.map fun p => p.2.length).sum [] = vt51 := by kernel_rfl

/-! ### 52 -/
def S52 : Sig := ⟨[(true, [.str, .bool, (.sl 29 [.str, .str, (.int .i64), (.int .i64), (.int .i64), (.sl 75 [.str, (.int .i64)])]), (.sl 31 [(.int .i64), (.int .i64), (.int .i64), (.int .i64), .str, (.int .i64), (.int .i64)]), (.sl 61 [.str, (.int .i64)])]), (false, [(.int .i64)]), (true, [.str, .str, (.int .i64), (.int .i64), (.int .i64), (.sl 75 [.str, (.int .i64)])])], [(true, [.str, .bool, (.sl 29 [.str, .str, (.int .i64), (.int .i64), (.int .i64), (.sl 75 [.str, (.int .i64)])]), (.sl 31 [(.int .i64), (.int .i64), (.int .i64), (.int .i64), .str, (.int .i64), (.int .i64)]), (.sl 61 [.str, (.int .i64)])])], [], none⟩
noncomputable def c52 : Code := Try.f52.body.getD .skip
theorem b52 : Try.f52.body = some c52 := body_some (by kernel_rfl)
theorem n52 : (Try.f52.name == "runtime.NumGoroutine") = false := by kernel_rfl
def sg52 : List (FuncId × Sig) := []
def L52_0 : LoopSig := ⟨15200, [(2, some 2, 29), (2, some 3, 31), (2, some 4, 61), (3, some 2, 29)],
   ⟨[.any, (.c (.x (.int .i64) (.var 0))), .any, (.c (.ptr 0 0)), .any, (.c (.ptr 1 0)), .any, (.c (.ptr 3 0)), (.c (.x (.int .i64) (.var 1))), .any, .any, .any, .any, .any, .any, .any, .any, .any, .any, .any, .any, .any, .any, .any, .any, .any, .any, .any, .any, .any, .any, .any, .any, .any, .any, .any, .any, .any, .any, .any, .any, .any, .any, .any, .any],
    [some ⟨(.t true), (.box 26 [(.x .str (.var 2)), (.x .bool (.var 3)), (.x (.sl 29 [.str, .str, (.int .i64), (.int .i64), (.int .i64), (.sl 75 [.str, (.int .i64)])]) (.var 4)), (.x (.sl 31 [(.int .i64), (.int .i64), (.int .i64), (.int .i64), .str, (.int .i64), (.int .i64)]) (.var 5)), (.x (.sl 61 [.str, (.int .i64)]) (.var 6))] false)⟩, some ⟨(.t true), (.box 29 [(.x .str (.var 7)), (.x .str (.var 8)), (.x (.int .i64) (.var 9)), (.x (.int .i64) (.var 10)), (.x (.int .i64) (.var 11)), (.x (.sl 75 [.str, (.int .i64)]) (.var 12))] false)⟩, none, some ⟨(.t true), (.box 26 [(.x .str (.var 13)), (.x .bool (.var 14)), (.row 7 1), (.x (.sl 31 [(.int .i64), (.int .i64), (.int .i64), (.int .i64), .str, (.int .i64), (.int .i64)]) (.var 15)), (.x (.sl 61 [.str, (.int .i64)]) (.var 16))] false)⟩, none, none, none, some ⟨(.t true), (.row 29 [.str, .str, (.int .i64), (.int .i64), (.int .i64), (.sl 75 [.str, (.int .i64)])] (.var 17) 1 false)⟩]⟩,
   18, [1, 17], [18, 19, 20, 21, 22, 25, 26, 27, 28, 29, 30, 31, 32, 33, 34, 35, 36, 37, 38, 39, 40, 41, 42, 43, 23, 24, 8], [(.exit 0)], [17]⟩
def lt52 : List (Nat × LoopSig) := [(3, L52_0)]
theorem k52 : (Code.loops c52).length = 1 := by kernel_rfl
noncomputable def lb52_0 : Code := (Code.loops c52).getD 0 .skip
def rt52_0 : VT :=
  (.ite (.bin .lt (.var 1) (.un .len (.var 4)))
   (.ite (.bin .eq (.var 1) (.var 0))
    (.need (.t true) (.c (.bin .le (.un .len (.bin .cat (.var 17) (.lcons (.cons (.var 7) (.cons (.var 8) (.cons (.var 9) (.cons (.var 10) (.cons (.var 11) (.cons (.var 12) .nil)))))) .lnil))) (.n 1759218604441)))
    (.ret (.cons (.n (-1)) (.cons (.bin (.add .i64) (.var 1) (.n 1)) (.cons (.bin .cat (.var 17) (.lcons (.cons (.var 7) (.cons (.var 8) (.cons (.var 9) (.cons (.var 10) (.cons (.var 11) (.cons (.var 12) .nil)))))) .lnil)) .nil)))))
    (.need (.t true) (.c (.bin .le (.n 0) (.var 1)))
    (.need (.t true) (.c (.bin .le (.un .len (.bin .cat (.var 17) (.lcons (.cons (.sel 0 (.var 4) (.var 1)) (.cons (.sel 1 (.var 4) (.var 1)) (.cons (.sel 2 (.var 4) (.var 1)) (.cons (.sel 3 (.var 4) (.var 1)) (.cons (.sel 4 (.var 4) (.var 1)) (.cons (.sel 5 (.var 4) (.var 1)) .nil)))))) .lnil))) (.n 1759218604441)))
    (.ret (.cons (.n (-1)) (.cons (.bin (.add .i64) (.var 1) (.n 1)) (.cons (.bin .cat (.var 17) (.lcons (.cons (.sel 0 (.var 4) (.var 1)) (.cons (.sel 1 (.var 4) (.var 1)) (.cons (.sel 2 (.var 4) (.var 1)) (.cons (.sel 3 (.var 4) (.var 1)) (.cons (.sel 4 (.var 4) (.var 1)) (.cons (.sel 5 (.var 4) (.var 1)) .nil)))))) .lnil)) .nil)))))))
   (.ret (.cons (.n 0) (.cons (.var 1) (.cons (.var 17) .nil)))))
theorem le52_0 : (loopVT Try.prog (sgOf sg52) (ltOf lt52) L52_0 lb52_0).slim L52_0.nv [] = rt52_0 := by kernel_rfl
theorem lf52_0 : (firstRegion lb52_0).bind (ltOf lt52) = some L52_0 := by kernel_rfl
theorem lk52_0 : (Code.loops lb52_0).length = 0 := by kernel_rfl
def vt52 : VT :=
  (.need (.t true) (.pre 15200 (.cons (.var 5) (.cons (.n 0) (.cons (.var 0) (.cons (.var 1) (.cons (.var 2) (.cons (.var 3) (.cons (.var 4) (.cons (.var 6) (.cons (.var 7) (.cons (.var 8) (.cons (.var 9) (.cons (.var 10) (.cons (.var 11) (.cons (.var 0) (.cons (.var 1) (.cons (.var 3) (.cons (.var 4) (.cons .lnil .nil)))))))))))))))))))
  (.lt (.app 15200 (.cons (.var 5) (.cons (.n 0) (.cons (.var 0) (.cons (.var 1) (.cons (.var 2) (.cons (.var 3) (.cons (.var 4) (.cons (.var 6) (.cons (.var 7) (.cons (.var 8) (.cons (.var 9) (.cons (.var 10) (.cons (.var 11) (.cons (.var 0) (.cons (.var 1) (.cons (.var 3) (.cons (.var 4) (.cons .lnil .nil)))))))))))))))))) 0) 3
  (.ret (.cons (.var 0) (.cons (.var 1) (.cons (.var 14) (.cons (.var 3) (.cons (.var 4) .nil))))))))
theorem e52 : (fnVT Try.prog (sgOf sg52) (ltOf lt52) S52 Try.f52 c52).slim (S52.ps.map fun p => p.2.length).sum [] = vt52 := by kernel_rfl

/-! ### 31 -/
def S31 : Sig := ⟨[(true, [.str, .bool, (.sl 29 [.str, .str, (.int .i64), (.int .i64), (.int .i64), (.sl 75 [.str, (.int .i64)])]), (.sl 31 [(.int .i64), (.int .i64), (.int .i64), (.int .i64), .str, (.int .i64), (.int .i64)]), (.sl 61 [.str, (.int .i64)])]), (true, [(.int .i64), (.int .i64), .str, .str, (.int .i64), (.int .i64), (.int .i64), (.sl 75 [.str, (.int .i64)]), (.int .i64), (.int .i64), (.int .i64), (.int .i64), .str, (.int .i64), (.int .i64)])], [(true, [.str, .bool, (.sl 29 [.str, .str, (.int .i64), (.int .i64), (.int .i64), (.sl 75 [.str, (.int .i64)])]), (.sl 31 [(.int .i64), (.int .i64), (.int .i64), (.int .i64), .str, (.int .i64), (.int .i64)]), (.sl 61 [.str, (.int .i64)])])], [], none⟩
noncomputable def c31 : Code := Try.f31.body.getD .skip
theorem b31 : Try.f31.body = some c31 := body_some (by kernel_rfl)
theorem n31 : (Try.f31.name == "runtime.NumGoroutine") = false := by kernel_rfl
def sg31 : List (FuncId × Sig) := [(51, S51), (52, S52)]
def lt31 : List (Nat × LoopSig) := []
theorem k31 : (Code.loops c31).length = 0 := by kernel_rfl
def vt31 : VT :=
  (.ite (.bin .eq (.var 5) (.n 1))
   (.need (.t true) (.c (.bin .le (.un .len (.bin .cat .lnil (.var 2))) (.n 1759218604441)))
   (.need (.t true) (.c (.bin .le (.un .len (.bin .cat (.bin .cat .lnil (.var 2)) (.lcons (.cons (.var 7) (.cons (.var 8) (.cons (.var 9) (.cons (.var 10) (.cons (.var 11) (.cons (.var 12) .nil)))))) .lnil))) (.n 1759218604441)))
   (.ret (.cons (.var 0) (.cons (.var 1) (.cons (.bin .cat (.bin .cat .lnil (.var 2)) (.lcons (.cons (.var 7) (.cons (.var 8) (.cons (.var 9) (.cons (.var 10) (.cons (.var 11) (.cons (.var 12) .nil)))))) .lnil)) (.cons (.var 3) (.cons (.var 4) .nil))))))))
   (.ite (.bin .eq (.var 5) (.n 3))
    (.need (.t true) (.c (.bin .le (.un .len (.bin .cat .lnil (.var 3))) (.n 2199023255552)))
    (.need (.t true) (.c (.bin .le (.un .len (.bin .cat (.bin .cat .lnil (.var 3)) (.lcons (.cons (.var 13) (.cons (.var 14) (.cons (.var 15) (.cons (.var 16) (.cons (.var 17) (.cons (.var 18) (.cons (.var 19) .nil))))))) .lnil))) (.n 2199023255552)))
    (.ret (.cons (.var 0) (.cons (.var 1) (.cons (.var 2) (.cons (.bin .cat (.bin .cat .lnil (.var 3)) (.lcons (.cons (.var 13) (.cons (.var 14) (.cons (.var 15) (.cons (.var 16) (.cons (.var 17) (.cons (.var 18) (.cons (.var 19) .nil))))))) .lnil)) (.cons (.var 4) .nil))))))))
    (.ite (.bin .eq (.var 5) (.n 4))
     (.need (.t true) (.c (.bin .le (.n 0) (.var 6)))
     (.need (.t true) (.c (.bin .le (.var 6) (.un .len (.var 3))))
     (.need (.t true) (.c (.bin .le (.un .len (.bin .cat .lnil (.sub (.var 3) (.n 0) (.var 6)))) (.n 2199023255552)))
     (.need (.t true) (.c (.bin .le (.n 0) (.bin (.add .i64) (.var 6) (.n 1))))
     (.need (.t true) (.c (.bin .le (.bin (.add .i64) (.var 6) (.n 1)) (.un .len (.var 3))))
     (.need (.t true) (.c (.bin .le (.un .len (.var 3)) (.un .len (.var 3))))
     (.need (.t true) (.c (.bin .le (.un .len (.bin .cat (.bin .cat .lnil (.sub (.var 3) (.n 0) (.var 6))) (.sub (.var 3) (.bin (.add .i64) (.var 6) (.n 1)) (.un .len (.var 3))))) (.n 2199023255552)))
     (.ret (.cons (.var 0) (.cons (.var 1) (.cons (.var 2) (.cons (.bin .cat (.bin .cat .lnil (.sub (.var 3) (.n 0) (.var 6))) (.sub (.var 3) (.bin (.add .i64) (.var 6) (.n 1)) (.un .len (.var 3)))) (.cons (.var 4) .nil)))))))))))))
     (.ite (.bin .eq (.var 5) (.n 2))
      (.need (.t true) (.pre 51 (.cons (.var 0) (.cons (.var 1) (.cons (.var 2) (.cons (.var 3) (.cons (.var 4) (.cons (.var 6) .nil)))))))
      (.lt (.app 51 (.cons (.var 0) (.cons (.var 1) (.cons (.var 2) (.cons (.var 3) (.cons (.var 4) (.cons (.var 6) .nil)))))) 0) 5
      (.ret (.cons (.var 20) (.cons (.var 21) (.cons (.var 22) (.cons (.var 23) (.cons (.var 24) .nil))))))))
      (.ite (.bin .eq (.var 5) (.n 5))
       (.need (.t true) (.c (.bin .le (.n 0) (.var 6)))
       (.need (.t true) (.c (.bin .lt (.var 6) (.un .len (.var 2))))
       (.need (.t true) (.pre 52 (.cons (.var 0) (.cons (.var 1) (.cons (.var 2) (.cons (.var 3) (.cons (.var 4) (.cons (.var 6) (.cons (.sel 0 (.var 2) (.var 6)) (.cons (.sel 1 (.var 2) (.var 6)) (.cons (.var 9) (.cons (.var 10) (.cons (.sel 4 (.var 2) (.var 6)) (.cons (.sel 5 (.var 2) (.var 6)) .nil)))))))))))))
       (.lt (.app 52 (.cons (.var 0) (.cons (.var 1) (.cons (.var 2) (.cons (.var 3) (.cons (.var 4) (.cons (.var 6) (.cons (.sel 0 (.var 2) (.var 6)) (.cons (.sel 1 (.var 2) (.var 6)) (.cons (.var 9) (.cons (.var 10) (.cons (.sel 4 (.var 2) (.var 6)) (.cons (.sel 5 (.var 2) (.var 6)) .nil)))))))))))) 0) 5
       (.ret (.cons (.var 20) (.cons (.var 21) (.cons (.var 22) (.cons (.var 23) (.cons (.var 24) .nil))))))))))
       (.ite (.bin .eq (.var 5) (.n 6))
        (.need (.t true) (.c (.bin .le (.n 0) (.var 6)))
        (.need (.t true) (.c (.bin .lt (.var 6) (.un .len (.var 2))))
        (.need (.t true) (.pre 52 (.cons (.var 0) (.cons (.var 1) (.cons (.var 2) (.cons (.var 3) (.cons (.var 4) (.cons (.var 6) (.cons (.sel 0 (.var 2) (.var 6)) (.cons (.var 8) (.cons (.sel 2 (.var 2) (.var 6)) (.cons (.sel 3 (.var 2) (.var 6)) (.cons (.sel 4 (.var 2) (.var 6)) (.cons (.sel 5 (.var 2) (.var 6)) .nil)))))))))))))
        (.lt (.app 52 (.cons (.var 0) (.cons (.var 1) (.cons (.var 2) (.cons (.var 3) (.cons (.var 4) (.cons (.var 6) (.cons (.sel 0 (.var 2) (.var 6)) (.cons (.var 8) (.cons (.sel 2 (.var 2) (.var 6)) (.cons (.sel 3 (.var 2) (.var 6)) (.cons (.sel 4 (.var 2) (.var 6)) (.cons (.sel 5 (.var 2) (.var 6)) .nil)))))))))))) 0) 5
        (.ret (.cons (.var 20) (.cons (.var 21) (.cons (.var 22) (.cons (.var 23) (.cons (.var 24) .nil))))))))))
        (.ret (.cons (.var 0) (.cons (.var 1) (.cons (.var 2) (.cons (.var 3) (.cons (.var 4) .nil))))))))))))
theorem e31 : (fnVT Try.prog (sgOf sg31) (ltOf lt31) S31 Try.f31 c31).slim (S31.ps.map fun p => p.2.length).sum [] = vt31 := by kernel_rfl

/-! ### 11 -/
def S11 : Sig := ⟨[(true, [.str, .bool, (.sl 29 [.str, .str, (.int .i64), (.int .i64), (.int .i64), (.sl 75 [.str, (.int .i64)])]), (.sl 31 [(.int .i64), (.int .i64), (.int .i64), (.int .i64), .str, (.int .i64), (.int .i64)]), (.sl 61 [.str, (.int .i64)])]), (true, [(.int .i64), (.int .i64), .str, .str, (.int .i64), (.int .i64), (.int .i64), (.sl 75 [.str, (.int .i64)]), (.int .i64), (.int .i64), (.int .i64), (.int .i64), .str, (.int .i64), (.int .i64)])], [(true, [.str, .bool, (.sl 29 [.str, .str, (.int .i64), (.int .i64), (.int .i64), (.sl 75 [.str, (.int .i64)])]), (.sl 31 [(.int .i64), (.int .i64), (.int .i64), (.int .i64), .str, (.int .i64), (.int .i64)]), (.sl 61 [.str, (.int .i64)])]), (false, [(.int .i64)])], [], none⟩
noncomputable def c11 : Code := Try.f11.body.getD .skip
theorem b11 : Try.f11.body = some c11 := body_some (by kernel_rfl)
theorem n11 : (Try.f11.name == "runtime.NumGoroutine") = false := by kernel_rfl
def sg11 : List (FuncId × Sig) := [(28, S28), (29, S29), (30, S30), (31, S31)]
def lt11 : List (Nat × LoopSig) := []
theorem k11 : (Code.loops c11).length = 0 := by kernel_rfl
def vt11 : VT :=
  (.need (.t true) (.pre 28 (.cons (.var 0) (.cons (.var 1) (.cons (.var 2) (.cons (.var 3) (.cons (.var 4) .nil))))))
  (.lt (.app 28 (.cons (.var 0) (.cons (.var 1) (.cons (.var 2) (.cons (.var 3) (.cons (.var 4) .nil))))) 0) 1
  (.need (.bin .eq (.var 20) (.n 0)) (.pre 29 (.cons (.var 5) (.cons (.var 6) (.cons (.var 7) (.cons (.var 8) (.cons (.var 9) (.cons (.var 10) (.cons (.var 11) (.cons (.var 12) (.cons (.var 13) (.cons (.var 14) (.cons (.var 15) (.cons (.var 16) (.cons (.var 17) (.cons (.var 18) (.cons (.var 19) .nil))))))))))))))))
  (.lt (.app 29 (.cons (.var 5) (.cons (.var 6) (.cons (.var 7) (.cons (.var 8) (.cons (.var 9) (.cons (.var 10) (.cons (.var 11) (.cons (.var 12) (.cons (.var 13) (.cons (.var 14) (.cons (.var 15) (.cons (.var 16) (.cons (.var 17) (.cons (.var 18) (.cons (.var 19) .nil))))))))))))))) 0) 1
  (.ite (.ite (.un .not (.bin .eq (.var 20) (.n 0))) (.t true) (.un .not (.var 21)))
   (.ret (.cons (.str ⟨#[]⟩) (.cons (.t false) (.cons .lnil (.cons .lnil (.cons .lnil (.cons (.n 1) .nil)))))))
   (.need (.t true) (.pre 30 (.cons (.var 0) (.cons (.var 1) (.cons (.var 2) (.cons (.var 3) (.cons (.var 4) (.cons (.var 5) (.cons (.var 6) (.cons (.var 7) (.cons (.var 8) (.cons (.var 9) (.cons (.var 10) (.cons (.var 11) (.cons (.var 12) (.cons (.var 13) (.cons (.var 14) (.cons (.var 15) (.cons (.var 16) (.cons (.var 17) (.cons (.var 18) (.cons (.var 19) .nil)))))))))))))))))))))
   (.lt (.app 30 (.cons (.var 0) (.cons (.var 1) (.cons (.var 2) (.cons (.var 3) (.cons (.var 4) (.cons (.var 5) (.cons (.var 6) (.cons (.var 7) (.cons (.var 8) (.cons (.var 9) (.cons (.var 10) (.cons (.var 11) (.cons (.var 12) (.cons (.var 13) (.cons (.var 14) (.cons (.var 15) (.cons (.var 16) (.cons (.var 17) (.cons (.var 18) (.cons (.var 19) .nil)))))))))))))))))))) 0) 1
   (.ite (.un .not (.var 22))
    (.ret (.cons (.str ⟨#[]⟩) (.cons (.t false) (.cons .lnil (.cons .lnil (.cons .lnil (.cons (.n 3) .nil)))))))
    (.need (.t true) (.pre 31 (.cons (.var 0) (.cons (.var 1) (.cons (.var 2) (.cons (.var 3) (.cons (.var 4) (.cons (.var 5) (.cons (.var 6) (.cons (.var 7) (.cons (.var 8) (.cons (.var 9) (.cons (.var 10) (.cons (.var 11) (.cons (.var 12) (.cons (.var 13) (.cons (.var 14) (.cons (.var 15) (.cons (.var 16) (.cons (.var 17) (.cons (.var 18) (.cons (.var 19) .nil)))))))))))))))))))))
    (.lt (.app 31 (.cons (.var 0) (.cons (.var 1) (.cons (.var 2) (.cons (.var 3) (.cons (.var 4) (.cons (.var 5) (.cons (.var 6) (.cons (.var 7) (.cons (.var 8) (.cons (.var 9) (.cons (.var 10) (.cons (.var 11) (.cons (.var 12) (.cons (.var 13) (.cons (.var 14) (.cons (.var 15) (.cons (.var 16) (.cons (.var 17) (.cons (.var 18) (.cons (.var 19) .nil)))))))))))))))))))) 0) 5
    (.need (.t true) (.pre 28 (.cons (.var 23) (.cons (.var 24) (.cons (.var 25) (.cons (.var 26) (.cons (.var 27) .nil))))))
    (.lt (.app 28 (.cons (.var 23) (.cons (.var 24) (.cons (.var 25) (.cons (.var 26) (.cons (.var 27) .nil))))) 0) 1
    (.ite (.un .not (.bin .eq (.var 28) (.n 0)))
     (.ret (.cons (.str ⟨#[]⟩) (.cons (.t false) (.cons .lnil (.cons .lnil (.cons .lnil (.cons (.var 28) .nil)))))))
     (.ret (.cons (.var 23) (.cons (.var 24) (.cons (.var 25) (.cons (.var 26) (.cons (.var 27) (.cons (.n 0) .nil))))))))))))))))))))
theorem e11 : (fnVT Try.prog (sgOf sg11) (ltOf lt11) S11 Try.f11 c11).slim (S11.ps.map fun p => p.2.length).sum [] = vt11 := by kernel_rfl

/-! ### 32 -/
def S32 : Sig := ⟨[(true, [.str, .str, (.int .i64), (.int .i64), (.int .i64), (.sl 75 [.str, (.int .i64)])]), (true, [.str, .str, (.int .i64), (.int .i64), (.int .i64), (.sl 75 [.str, (.int .i64)])])], [(false, [.bool])], [], none⟩
noncomputable def c32 : Code := Try.f32.body.getD .skip
theorem b32 : Try.f32.body = some c32 := body_some (by kernel_rfl)
theorem n32 : (Try.f32.name == "runtime.NumGoroutine") = false := by kernel_rfl
def sg32 : List (FuncId × Sig) := []
def L32_0 : LoopSig := ⟨13200, [],
   ⟨[.any, .any, (.c (.ptr 0 0)), (.c (.ptr 1 0)), (.c (.x .bool (.var 0))), (.c (.x (.int .i64) (.var 1))), .any, .any, .any, .any, .any, .any, .any, .any, .any, .any, .any, .any, .any, .any, .any, .any, .any, .any, .any, .any, .any, .any, .any, .any, .any, .any, .any, .any, .any, .any, .any, .any, .any, .any, .any, .any, .any, .any, .any, .any, .any, .any, .any, .any, .any, .any, .any, .any, .any, .any, .any, .any, .any, .any, .any, .any, .any, .any, .any, .any],
    [some ⟨(.t true), (.box 29 [(.x .str (.var 2)), (.x .str (.var 3)), (.x (.int .i64) (.var 4)), (.x (.int .i64) (.var 5)), (.x (.int .i64) (.var 6)), (.x (.sl 75 [.str, (.int .i64)]) (.var 7))] false)⟩, some ⟨(.t true), (.box 29 [(.x .str (.var 8)), (.x .str (.var 9)), (.x (.int .i64) (.var 10)), (.x (.int .i64) (.var 11)), (.x (.int .i64) (.var 12)), (.x (.sl 75 [.str, (.int .i64)]) (.var 13))] false)⟩]⟩,
   14, [0, 1], [48, 49, 50, 51, 52, 55, 56, 57, 58, 59, 60, 61, 62, 63, 64, 65, 4, 53, 54, 5], [.ret, (.exit 0)], []⟩
def lt32 : List (Nat × LoopSig) := [(4, L32_0)]
theorem k32 : (Code.loops c32).length = 1 := by kernel_rfl
noncomputable def lb32_0 : Code := (Code.loops c32).getD 0 .skip
def rt32_0 : VT :=
  (.ite (.bin .lt (.var 1) (.un .len (.var 7)))
   (.need (.t true) (.c (.bin .le (.n 0) (.var 1)))
   (.need (.t true) (.c (.bin .lt (.var 1) (.un .len (.var 13))))
   (.ite (.un .not (.ite (.bin .seq (.sel 0 (.var 7) (.var 1)) (.sel 0 (.var 13) (.var 1))) (.bin .eq (.sel 1 (.var 7) (.var 1)) (.sel 1 (.var 13) (.var 1))) (.t false)))
    (.ret (.cons (.n 0) (.cons (.t false) (.cons (.var 1) .nil))))
    (.ret (.cons (.n (-1)) (.cons (.var 0) (.cons (.bin (.add .i64) (.var 1) (.n 1)) .nil)))))))
   (.ret (.cons (.n 1) (.cons (.var 0) (.cons (.var 1) .nil)))))
theorem le32_0 : (loopVT Try.prog (sgOf sg32) (ltOf lt32) L32_0 lb32_0).slim L32_0.nv [] = rt32_0 := by kernel_rfl
theorem lf32_0 : (firstRegion lb32_0).bind (ltOf lt32) = some L32_0 := by kernel_rfl
theorem lk32_0 : (Code.loops lb32_0).length = 0 := by kernel_rfl
def vt32 : VT :=
  (.ite (.ite (.ite (.ite (.ite (.ite (.un .not (.bin .seq (.var 0) (.var 6))) (.t true) (.un .not (.bin .seq (.var 1) (.var 7)))) (.t true) (.un .not (.bin .eq (.var 2) (.var 8)))) (.t true) (.un .not (.bin .eq (.var 3) (.var 9)))) (.t true) (.un .not (.bin .eq (.var 4) (.var 10)))) (.t true) (.un .not (.bin .eq (.un .len (.var 5)) (.un .len (.var 11)))))
   (.ret (.cons (.t false) .nil))
   (.need (.t true) (.pre 13200 (.cons (.t false) (.cons (.n 0) (.cons (.var 0) (.cons (.var 1) (.cons (.var 2) (.cons (.var 3) (.cons (.var 4) (.cons (.var 5) (.cons (.var 6) (.cons (.var 7) (.cons (.var 8) (.cons (.var 9) (.cons (.var 10) (.cons (.var 11) .nil)))))))))))))))
   (.lt (.app 13200 (.cons (.t false) (.cons (.n 0) (.cons (.var 0) (.cons (.var 1) (.cons (.var 2) (.cons (.var 3) (.cons (.var 4) (.cons (.var 5) (.cons (.var 6) (.cons (.var 7) (.cons (.var 8) (.cons (.var 9) (.cons (.var 10) (.cons (.var 11) .nil)))))))))))))) 0) 3
   (.ite (.bin .eq (.var 12) (.n 0))
    (.ret (.cons (.var 13) .nil))
    (.ret (.cons (.t true) .nil))))))
theorem e32 : (fnVT Try.prog (sgOf sg32) (ltOf lt32) S32 Try.f32 c32).slim (S32.ps.map fun p => p.2.length).sum [] = vt32 := by kernel_rfl

/-! ### 12 -/
def S12 : Sig := ⟨[(true, [.str, .bool, (.sl 29 [.str, .str, (.int .i64), (.int .i64), (.int .i64), (.sl 75 [.str, (.int .i64)])]), (.sl 31 [(.int .i64), (.int .i64), (.int .i64), (.int .i64), .str, (.int .i64), (.int .i64)]), (.sl 61 [.str, (.int .i64)])]), (true, [.str, .bool, (.sl 29 [.str, .str, (.int .i64), (.int .i64), (.int .i64), (.sl 75 [.str, (.int .i64)])]), (.sl 31 [(.int .i64), (.int .i64), (.int .i64), (.int .i64), .str, (.int .i64), (.int .i64)]), (.sl 61 [.str, (.int .i64)])])], [(false, [.bool])], [], none⟩
noncomputable def c12 : Code := Try.f12.body.getD .skip
theorem b12 : Try.f12.body = some c12 := body_some (by kernel_rfl)
theorem n12 : (Try.f12.name == "runtime.NumGoroutine") = false := by kernel_rfl
def sg12 : List (FuncId × Sig) := [(32, S32)]
def L12_0 : LoopSig := ⟨11200, [],
   ⟨[.any, .any, (.c (.ptr 0 0)), (.c (.ptr 1 0)), (.c (.x .bool (.var 0))), (.c (.x (.int .i64) (.var 1))), .any, .any, .any, .any, .any, .any, .any, .any, .any, .any, .any, .any, .any, .any, .any, .any, .any, .any, .any, .any, .any, .any, .any, .any, .any, .any, .any, .any, .any, .any, .any, .any, .any, .any, .any, .any, .any, .any, .any, .any, .any, .any, .any, .any, .any, .any, .any, .any, .any, .any, .any, .any, .any, .any, .any, .any, .any, .any, .any, .any, .any, .any, .any, .any, .any, .any, .any, .any, .any, .any, .any, .any, .any, .any, .any, .any, .any, .any, .any, .any, .any, .any, .any, .any, .any, .any, .any, .any, .any, .any, .any, .any, .any, .any, .any, .any],
    [some ⟨(.t true), (.box 26 [(.x .str (.var 2)), (.x .bool (.var 3)), (.x (.sl 29 [.str, .str, (.int .i64), (.int .i64), (.int .i64), (.sl 75 [.str, (.int .i64)])]) (.var 4)), (.x (.sl 31 [(.int .i64), (.int .i64), (.int .i64), (.int .i64), .str, (.int .i64), (.int .i64)]) (.var 5)), (.x (.sl 61 [.str, (.int .i64)]) (.var 6))] false)⟩, some ⟨(.t true), (.box 26 [(.x .str (.var 7)), (.x .bool (.var 8)), (.x (.sl 29 [.str, .str, (.int .i64), (.int .i64), (.int .i64), (.sl 75 [.str, (.int .i64)])]) (.var 9)), (.x (.sl 31 [(.int .i64), (.int .i64), (.int .i64), (.int .i64), .str, (.int .i64), (.int .i64)]) (.var 10)), (.x (.sl 61 [.str, (.int .i64)]) (.var 11))] false)⟩]⟩,
   12, [0, 1], [47, 48, 49, 50, 51, 54, 55, 56, 57, 58, 59, 60, 61, 62, 63, 64, 65, 4, 52, 53, 5], [.ret, (.exit 0)], []⟩
def L12_1 : LoopSig := ⟨11201, [],
   ⟨[.any, .any, (.c (.ptr 0 0)), (.c (.ptr 1 0)), (.c (.x .bool (.var 0))), .any, (.c (.x (.int .i64) (.var 1))), .any, .any, .any, .any, .any, .any, .any, .any, .any, .any, .any, .any, .any, .any, .any, .any, .any, .any, .any, .any, .any, .any, .any, .any, .any, .any, .any, .any, .any, .any, .any, .any, .any, .any, .any, .any, .any, .any, .any, .any, .any, .any, .any, .any, .any, .any, .any, .any, .any, .any, .any, .any, .any, .any, .any, .any, .any, .any, .any, .any, .any, .any, .any, .any, .any, .any, .any, .any, .any, .any, .any, .any, .any, .any, .any, .any, .any, .any, .any, .any, .any, .any, .any, .any, .any, .any, .any, .any, .any, .any, .any, .any, .any, .any, .any],
    [some ⟨(.t true), (.box 26 [(.x .str (.var 2)), (.x .bool (.var 3)), (.x (.sl 29 [.str, .str, (.int .i64), (.int .i64), (.int .i64), (.sl 75 [.str, (.int .i64)])]) (.var 4)), (.x (.sl 31 [(.int .i64), (.int .i64), (.int .i64), (.int .i64), .str, (.int .i64), (.int .i64)]) (.var 5)), (.x (.sl 61 [.str, (.int .i64)]) (.var 6))] false)⟩, some ⟨(.t true), (.box 26 [(.x .str (.var 7)), (.x .bool (.var 8)), (.x (.sl 29 [.str, .str, (.int .i64), (.int .i64), (.int .i64), (.sl 75 [.str, (.int .i64)])]) (.var 9)), (.x (.sl 31 [(.int .i64), (.int .i64), (.int .i64), (.int .i64), .str, (.int .i64), (.int .i64)]) (.var 10)), (.x (.sl 61 [.str, (.int .i64)]) (.var 11))] false)⟩]⟩,
   12, [0, 1], [66, 67, 68, 69, 70, 73, 74, 75, 76, 77, 78, 79, 80, 81, 82, 83, 4, 71, 72, 6], [.ret, (.exit 2)], []⟩
def L12_2 : LoopSig := ⟨11202, [],
   ⟨[.any, .any, (.c (.ptr 0 0)), (.c (.ptr 1 0)), (.c (.x .bool (.var 0))), .any, .any, (.c (.x (.int .i64) (.var 1))), .any, .any, .any, .any, .any, .any, .any, .any, .any, .any, .any, .any, .any, .any, .any, .any, .any, .any, .any, .any, .any, .any, .any, .any, .any, .any, .any, .any, .any, .any, .any, .any, .any, .any, .any, .any, .any, .any, .any, .any, .any, .any, .any, .any, .any, .any, .any, .any, .any, .any, .any, .any, .any, .any, .any, .any, .any, .any, .any, .any, .any, .any, .any, .any, .any, .any, .any, .any, .any, .any, .any, .any, .any, .any, .any, .any, .any, .any, .any, .any, .any, .any, .any, .any, .any, .any, .any, .any, .any, .any, .any, .any, .any, .any],
    [some ⟨(.t true), (.box 26 [(.x .str (.var 2)), (.x .bool (.var 3)), (.x (.sl 29 [.str, .str, (.int .i64), (.int .i64), (.int .i64), (.sl 75 [.str, (.int .i64)])]) (.var 4)), (.x (.sl 31 [(.int .i64), (.int .i64), (.int .i64), (.int .i64), .str, (.int .i64), (.int .i64)]) (.var 5)), (.x (.sl 61 [.str, (.int .i64)]) (.var 6))] false)⟩, some ⟨(.t true), (.box 26 [(.x .str (.var 7)), (.x .bool (.var 8)), (.x (.sl 29 [.str, .str, (.int .i64), (.int .i64), (.int .i64), (.sl 75 [.str, (.int .i64)])]) (.var 9)), (.x (.sl 31 [(.int .i64), (.int .i64), (.int .i64), (.int .i64), .str, (.int .i64), (.int .i64)]) (.var 10)), (.x (.sl 61 [.str, (.int .i64)]) (.var 11))] false)⟩]⟩,
   12, [0, 1], [84, 85, 86, 87, 88, 91, 92, 93, 94, 95, 96, 97, 98, 99, 100, 101, 4, 89, 90, 7], [.ret, (.exit 4)], []⟩
def lt12 : List (Nat × LoopSig) := [(4, L12_0), (9, L12_1), (14, L12_2)]
theorem k12 : (Code.loops c12).length = 3 := by kernel_rfl
noncomputable def lb12_0 : Code := (Code.loops c12).getD 0 .skip
noncomputable def lb12_1 : Code := (Code.loops c12).getD 1 .skip
noncomputable def lb12_2 : Code := (Code.loops c12).getD 2 .skip
def rt12_0 : VT :=
  (.ite (.bin .lt (.var 1) (.un .len (.var 4)))
   (.need (.t true) (.c (.bin .le (.n 0) (.var 1)))
   (.need (.t true) (.c (.bin .lt (.var 1) (.un .len (.var 9))))
   (.need (.t true) (.pre 32 (.cons (.sel 0 (.var 4) (.var 1)) (.cons (.sel 1 (.var 4) (.var 1)) (.cons (.sel 2 (.var 4) (.var 1)) (.cons (.sel 3 (.var 4) (.var 1)) (.cons (.sel 4 (.var 4) (.var 1)) (.cons (.sel 5 (.var 4) (.var 1)) (.cons (.sel 0 (.var 9) (.var 1)) (.cons (.sel 1 (.var 9) (.var 1)) (.cons (.sel 2 (.var 9) (.var 1)) (.cons (.sel 3 (.var 9) (.var 1)) (.cons (.sel 4 (.var 9) (.var 1)) (.cons (.sel 5 (.var 9) (.var 1)) .nil)))))))))))))
   (.lt (.app 32 (.cons (.sel 0 (.var 4) (.var 1)) (.cons (.sel 1 (.var 4) (.var 1)) (.cons (.sel 2 (.var 4) (.var 1)) (.cons (.sel 3 (.var 4) (.var 1)) (.cons (.sel 4 (.var 4) (.var 1)) (.cons (.sel 5 (.var 4) (.var 1)) (.cons (.sel 0 (.var 9) (.var 1)) (.cons (.sel 1 (.var 9) (.var 1)) (.cons (.sel 2 (.var 9) (.var 1)) (.cons (.sel 3 (.var 9) (.var 1)) (.cons (.sel 4 (.var 9) (.var 1)) (.cons (.sel 5 (.var 9) (.var 1)) .nil)))))))))))) 0) 1
   (.ite (.un .not (.var 12))
    (.ret (.cons (.n 0) (.cons (.t false) (.cons (.var 1) .nil))))
    (.ret (.cons (.n (-1)) (.cons (.var 0) (.cons (.bin (.add .i64) (.var 1) (.n 1)) .nil)))))))))
   (.ret (.cons (.n 1) (.cons (.var 0) (.cons (.var 1) .nil)))))
theorem le12_0 : (loopVT Try.prog (sgOf sg12) (ltOf lt12) L12_0 lb12_0).slim L12_0.nv [] = rt12_0 := by kernel_rfl
theorem lf12_0 : (firstRegion lb12_0).bind (ltOf lt12) = some L12_0 := by kernel_rfl
theorem lk12_0 : (Code.loops lb12_0).length = 0 := by kernel_rfl
def rt12_1 : VT :=
  (.ite (.bin .lt (.var 1) (.un .len (.var 5)))
   (.need (.t true) (.c (.bin .le (.n 0) (.var 1)))
   (.need (.t true) (.c (.bin .lt (.var 1) (.un .len (.var 10))))
   (.ite (.un .not (.ite (.bin .eq (.sel 0 (.var 5) (.var 1)) (.sel 0 (.var 10) (.var 1))) (.ite (.bin .eq (.sel 1 (.var 5) (.var 1)) (.sel 1 (.var 10) (.var 1))) (.ite (.bin .eq (.sel 2 (.var 5) (.var 1)) (.sel 2 (.var 10) (.var 1))) (.ite (.bin .eq (.sel 3 (.var 5) (.var 1)) (.sel 3 (.var 10) (.var 1))) (.ite (.bin .seq (.sel 4 (.var 5) (.var 1)) (.sel 4 (.var 10) (.var 1))) (.ite (.bin .eq (.sel 5 (.var 5) (.var 1)) (.sel 5 (.var 10) (.var 1))) (.bin .eq (.sel 6 (.var 5) (.var 1)) (.sel 6 (.var 10) (.var 1))) (.t false)) (.t false)) (.t false)) (.t false)) (.t false)) (.t false)))
    (.ret (.cons (.n 0) (.cons (.t false) (.cons (.var 1) .nil))))
    (.ret (.cons (.n (-1)) (.cons (.var 0) (.cons (.bin (.add .i64) (.var 1) (.n 1)) .nil)))))))
   (.ret (.cons (.n 1) (.cons (.var 0) (.cons (.var 1) .nil)))))
theorem le12_1 : (loopVT Try.prog (sgOf sg12) (ltOf lt12) L12_1 lb12_1).slim L12_1.nv [] = rt12_1 := by kernel_rfl
theorem lf12_1 : (firstRegion lb12_1).bind (ltOf lt12) = some L12_1 := by kernel_rfl
theorem lk12_1 : (Code.loops lb12_1).length = 0 := by kernel_rfl
def rt12_2 : VT :=
  (.ite (.bin .lt (.var 1) (.un .len (.var 6)))
   (.need (.t true) (.c (.bin .le (.n 0) (.var 1)))
   (.need (.t true) (.c (.bin .lt (.var 1) (.un .len (.var 11))))
   (.ite (.un .not (.ite (.bin .seq (.sel 0 (.var 6) (.var 1)) (.sel 0 (.var 11) (.var 1))) (.bin .eq (.sel 1 (.var 6) (.var 1)) (.sel 1 (.var 11) (.var 1))) (.t false)))
    (.ret (.cons (.n 0) (.cons (.t false) (.cons (.var 1) .nil))))
    (.ret (.cons (.n (-1)) (.cons (.var 0) (.cons (.bin (.add .i64) (.var 1) (.n 1)) .nil)))))))
   (.ret (.cons (.n 1) (.cons (.var 0) (.cons (.var 1) .nil)))))
theorem le12_2 : (loopVT Try.prog (sgOf sg12) (ltOf lt12) L12_2 lb12_2).slim L12_2.nv [] = rt12_2 := by kernel_rfl
theorem lf12_2 : (firstRegion lb12_2).bind (ltOf lt12) = some L12_2 := by kernel_rfl
theorem lk12_2 : (Code.loops lb12_2).length = 0 := by kernel_rfl
def vt12 : VT :=
  (.ite (.ite (.ite (.ite (.ite (.un .not (.bin .seq (.var 0) (.var 5))) (.t true) (.un .not (.bin .beq (.var 1) (.var 6)))) (.t true) (.un .not (.bin .eq (.un .len (.var 2)) (.un .len (.var 7))))) (.t true) (.un .not (.bin .eq (.un .len (.var 3)) (.un .len (.var 8))))) (.t true) (.un .not (.bin .eq (.un .len (.var 4)) (.un .len (.var 9)))))
   (.ret (.cons (.t false) .nil))
   (.need (.t true) (.pre 11200 (.cons (.t false) (.cons (.n 0) (.cons (.var 0) (.cons (.var 1) (.cons (.var 2) (.cons (.var 3) (.cons (.var 4) (.cons (.var 5) (.cons (.var 6) (.cons (.var 7) (.cons (.var 8) (.cons (.var 9) .nil)))))))))))))
   (.lt (.app 11200 (.cons (.t false) (.cons (.n 0) (.cons (.var 0) (.cons (.var 1) (.cons (.var 2) (.cons (.var 3) (.cons (.var 4) (.cons (.var 5) (.cons (.var 6) (.cons (.var 7) (.cons (.var 8) (.cons (.var 9) .nil)))))))))))) 0) 3
   (.ite (.bin .eq (.var 10) (.n 0))
    (.ret (.cons (.var 11) .nil))
    (.need (.t true) (.pre 11201 (.cons (.var 11) (.cons (.n 0) (.cons (.var 0) (.cons (.var 1) (.cons (.var 2) (.cons (.var 3) (.cons (.var 4) (.cons (.var 5) (.cons (.var 6) (.cons (.var 7) (.cons (.var 8) (.cons (.var 9) .nil)))))))))))))
    (.lt (.app 11201 (.cons (.var 11) (.cons (.n 0) (.cons (.var 0) (.cons (.var 1) (.cons (.var 2) (.cons (.var 3) (.cons (.var 4) (.cons (.var 5) (.cons (.var 6) (.cons (.var 7) (.cons (.var 8) (.cons (.var 9) .nil)))))))))))) 0) 3
    (.ite (.bin .eq (.var 13) (.n 0))
     (.ret (.cons (.var 14) .nil))
     (.need (.t true) (.pre 11202 (.cons (.var 14) (.cons (.n 0) (.cons (.var 0) (.cons (.var 1) (.cons (.var 2) (.cons (.var 3) (.cons (.var 4) (.cons (.var 5) (.cons (.var 6) (.cons (.var 7) (.cons (.var 8) (.cons (.var 9) .nil)))))))))))))
     (.lt (.app 11202 (.cons (.var 14) (.cons (.n 0) (.cons (.var 0) (.cons (.var 1) (.cons (.var 2) (.cons (.var 3) (.cons (.var 4) (.cons (.var 5) (.cons (.var 6) (.cons (.var 7) (.cons (.var 8) (.cons (.var 9) .nil)))))))))))) 0) 3
     (.ite (.bin .eq (.var 16) (.n 0))
      (.ret (.cons (.var 17) .nil))
      (.ret (.cons (.t true) .nil))))))))))))
theorem e12 : (fnVT Try.prog (sgOf sg12) (ltOf lt12) S12 Try.f12 c12).slim (S12.ps.map fun p => p.2.length).sum [] = vt12 := by kernel_rfl

/-! ### 3 -/
def S3 : Sig := ⟨[(true, [.str, .bool, (.sl 29 [.str, .str, (.int .i64), (.int .i64), (.int .i64), (.sl 75 [.str, (.int .i64)])]), (.sl 31 [(.int .i64), (.int .i64), (.int .i64), (.int .i64), .str, (.int .i64), (.int .i64)]), (.sl 61 [.str, (.int .i64)])]), (true, [(.int .i64), (.int .i64), .str, .str, (.int .i64), (.int .i64), (.int .i64), (.sl 75 [.str, (.int .i64)]), (.int .i64), (.int .i64), (.int .i64), (.int .i64), .str, (.int .i64), (.int .i64)])], [(false, [.bool])], [], none⟩
noncomputable def c3 : Code := Try.f3.body.getD .skip
theorem b3 : Try.f3.body = some c3 := body_some (by kernel_rfl)
theorem n3 : (Try.f3.name == "runtime.NumGoroutine") = false := by kernel_rfl
def sg3 : List (FuncId × Sig) := [(8, S8), (9, S9), (10, S10), (11, S11), (12, S12)]
def lt3 : List (Nat × LoopSig) := []
theorem k3 : (Code.loops c3).length = 0 := by kernel_rfl
def vt3 : VT :=
  (.need (.t true) (.pre 8 (.cons (.var 0) (.cons (.var 1) (.cons (.var 2) (.cons (.var 3) (.cons (.var 4) (.cons (.lcons (.cons (.var 5) (.cons (.var 6) (.cons (.var 7) (.cons (.var 8) (.cons (.var 9) (.cons (.var 10) (.cons (.var 11) (.cons (.var 12) (.cons (.var 13) (.cons (.var 14) (.cons (.var 15) (.cons (.var 16) (.cons (.var 17) (.cons (.var 18) (.cons (.var 19) .nil))))))))))))))) .lnil) .nil)))))))
  (.lt (.app 8 (.cons (.var 0) (.cons (.var 1) (.cons (.var 2) (.cons (.var 3) (.cons (.var 4) (.cons (.lcons (.cons (.var 5) (.cons (.var 6) (.cons (.var 7) (.cons (.var 8) (.cons (.var 9) (.cons (.var 10) (.cons (.var 11) (.cons (.var 12) (.cons (.var 13) (.cons (.var 14) (.cons (.var 15) (.cons (.var 16) (.cons (.var 17) (.cons (.var 18) (.cons (.var 19) .nil))))))))))))))) .lnil) .nil)))))) 0) 1
  (.ite (.un .not (.var 20))
   (.need (.t true) (.pre 9 .nil)
   (.lt (.app 9 .nil 0) 1
   (.ret (.cons (.var 21) .nil))))
   (.need (.t true) (.pre 10 (.cons (.var 0) (.cons (.var 1) (.cons (.var 2) (.cons (.var 3) (.cons (.var 4) (.cons (.var 5) (.cons (.var 6) (.cons (.var 7) (.cons (.var 8) (.cons (.var 9) (.cons (.var 10) (.cons (.var 11) (.cons (.var 12) (.cons (.var 13) (.cons (.var 14) (.cons (.var 15) (.cons (.var 16) (.cons (.var 17) (.cons (.var 18) (.cons (.var 19) .nil)))))))))))))))))))))
   (.lt (.app 10 (.cons (.var 0) (.cons (.var 1) (.cons (.var 2) (.cons (.var 3) (.cons (.var 4) (.cons (.var 5) (.cons (.var 6) (.cons (.var 7) (.cons (.var 8) (.cons (.var 9) (.cons (.var 10) (.cons (.var 11) (.cons (.var 12) (.cons (.var 13) (.cons (.var 14) (.cons (.var 15) (.cons (.var 16) (.cons (.var 17) (.cons (.var 18) (.cons (.var 19) .nil)))))))))))))))))))) 0) 6
   (.need (.t true) (.pre 11 (.cons (.var 0) (.cons (.var 1) (.cons (.var 2) (.cons (.var 3) (.cons (.var 4) (.cons (.var 5) (.cons (.var 6) (.cons (.var 7) (.cons (.var 8) (.cons (.var 9) (.cons (.var 10) (.cons (.var 11) (.cons (.var 12) (.cons (.var 13) (.cons (.var 14) (.cons (.var 15) (.cons (.var 16) (.cons (.var 17) (.cons (.var 18) (.cons (.var 19) .nil)))))))))))))))))))))
   (.lt (.app 11 (.cons (.var 0) (.cons (.var 1) (.cons (.var 2) (.cons (.var 3) (.cons (.var 4) (.cons (.var 5) (.cons (.var 6) (.cons (.var 7) (.cons (.var 8) (.cons (.var 9) (.cons (.var 10) (.cons (.var 11) (.cons (.var 12) (.cons (.var 13) (.cons (.var 14) (.cons (.var 15) (.cons (.var 16) (.cons (.var 17) (.cons (.var 18) (.cons (.var 19) .nil)))))))))))))))))))) 0) 6
   (.need (.t true) (.pre 12 (.cons (.var 21) (.cons (.var 22) (.cons (.var 23) (.cons (.var 24) (.cons (.var 25) (.cons (.var 27) (.cons (.var 28) (.cons (.var 29) (.cons (.var 30) (.cons (.var 31) .nil)))))))))))
   (.lt (.app 12 (.cons (.var 21) (.cons (.var 22) (.cons (.var 23) (.cons (.var 24) (.cons (.var 25) (.cons (.var 27) (.cons (.var 28) (.cons (.var 29) (.cons (.var 30) (.cons (.var 31) .nil)))))))))) 0) 1
   (.need (.ite (.var 33) (.bin .eq (.var 26) (.var 32)) (.t false)) (.pre 9 .nil)
   (.lt (.app 9 .nil 0) 1
   (.ret (.cons (.ite (.ite (.var 33) (.bin .eq (.var 26) (.var 32)) (.t false)) (.var 34) (.t false)) .nil)))))))))))))
theorem e3 : (fnVT Try.prog (sgOf sg3) (ltOf lt3) S3 Try.f3 c3).slim (S3.ps.map fun p => p.2.length).sum [] = vt3 := by kernel_rfl

/-! ### 34 -/
def S34 : Sig := ⟨[(true, [.str, .bool, (.sl 29 [.str, .str, (.int .i64), (.int .i64), (.int .i64), (.sl 75 [.str, (.int .i64)])]), (.sl 31 [(.int .i64), (.int .i64), (.int .i64), (.int .i64), .str, (.int .i64), (.int .i64)]), (.sl 61 [.str, (.int .i64)])])], [(false, [(.sl 33 [(.int .i64), (.int .i64), .str, .str, (.int .i64), (.int .i64), (.int .i64), (.sl 75 [.str, (.int .i64)]), (.int .i64), (.int .i64), (.int .i64), (.int .i64), .str, (.int .i64), (.int .i64)])]), (false, [.bool])], [], none⟩
noncomputable def c34 : Code := Try.f34.body.getD .skip
theorem b34 : Try.f34.body = some c34 := body_some (by kernel_rfl)
theorem n34 : (Try.f34.name == "runtime.NumGoroutine") = false := by kernel_rfl
def sg34 : List (FuncId × Sig) := []
def L34_0 : LoopSig := ⟨13400, [],
   ⟨[.any, (.c (.ptr 0 0)), (.c (.x (.sl 33 [(.int .i64), (.int .i64), .str, .str, (.int .i64), (.int .i64), (.int .i64), (.sl 75 [.str, (.int .i64)]), (.int .i64), (.int .i64), (.int .i64), (.int .i64), .str, (.int .i64), (.int .i64)]) (.var 0))), (.c (.x .bool (.var 1))), (.c (.x (.int .i64) (.var 2))), (.c (.row 1 1)), (.c (.x (.int .i64) (.var 3))), .any, .any, .any, .any, .any, .any, .any, .any, .any, .any, .any, .any, .any, .any, .any, .any, .any, .any, .any, .any, .any, .any, .any, .any, .any, .any, .any, .any, .any, .any, .any, .any, .any, .any, .any, .any, .any, .any, .any, .any, .any, .any, .any, .any, .any],
    [some ⟨(.t true), (.box 26 [(.x .str (.var 4)), (.x .bool (.var 5)), (.x (.sl 29 [.str, .str, (.int .i64), (.int .i64), (.int .i64), (.sl 75 [.str, (.int .i64)])]) (.var 6)), (.x (.sl 31 [(.int .i64), (.int .i64), (.int .i64), (.int .i64), .str, (.int .i64), (.int .i64)]) (.var 7)), (.x (.sl 61 [.str, (.int .i64)]) (.var 8))] false)⟩, some ⟨(.t true), (.row 33 [(.int .i64), (.int .i64), .str, .str, (.int .i64), (.int .i64), (.int .i64), (.sl 75 [.str, (.int .i64)]), (.int .i64), (.int .i64), (.int .i64), (.int .i64), .str, (.int .i64), (.int .i64)] (.var 9) 1 false)⟩]⟩,
   10, [0, 1, 3, 9], [19, 20, 21, 22, 23, 26, 27, 28, 29, 30, 7, 32, 33, 34, 35, 36, 37, 38, 39, 40, 41, 31, 42, 43, 44, 45, 46, 5, 48, 49, 50, 47, 2, 3, 24, 25, 6], [.ret, (.exit 0)], [9]⟩
def lt34 : List (Nat × LoopSig) := [(4, L34_0)]
theorem k34 : (Code.loops c34).length = 1 := by kernel_rfl
noncomputable def lb34_0 : Code := (Code.loops c34).getD 0 .skip
def rt34_0 : VT :=
  (.ite (.bin .lt (.var 3) (.un .len (.var 7)))
   (.need (.t true) (.c (.bin .le (.n 0) (.var 3)))
   (.ite (.ite (.bin .eq (.sel 0 (.var 7) (.var 3)) (.var 2)) (.t true) (.bin .eq (.sel 1 (.var 7) (.var 3)) (.var 2)))
    (.need (.t true) (.c (.bin .le (.un .len (.bin .cat (.var 9) (.lcons (.cons (.n 3) (.cons (.n 0) (.cons (.str ⟨#[]⟩) (.cons (.str ⟨#[]⟩) (.cons (.n 0) (.cons (.n 0) (.cons (.n 0) (.cons .lnil (.cons (.sel 0 (.var 7) (.var 3)) (.cons (.sel 1 (.var 7) (.var 3)) (.cons (.sel 2 (.var 7) (.var 3)) (.cons (.sel 3 (.var 7) (.var 3)) (.cons (.sel 4 (.var 7) (.var 3)) (.cons (.sel 5 (.var 7) (.var 3)) (.cons (.sel 6 (.var 7) (.var 3)) .nil))))))))))))))) .lnil))) (.n 879609302220)))
    (.ret (.cons (.n (-1)) (.cons (.var 0) (.cons (.var 1) (.cons (.bin (.add .i64) (.var 3) (.n 1)) (.cons (.bin .cat (.var 9) (.lcons (.cons (.n 3) (.cons (.n 0) (.cons (.str ⟨#[]⟩) (.cons (.str ⟨#[]⟩) (.cons (.n 0) (.cons (.n 0) (.cons (.n 0) (.cons .lnil (.cons (.sel 0 (.var 7) (.var 3)) (.cons (.sel 1 (.var 7) (.var 3)) (.cons (.sel 2 (.var 7) (.var 3)) (.cons (.sel 3 (.var 7) (.var 3)) (.cons (.sel 4 (.var 7) (.var 3)) (.cons (.sel 5 (.var 7) (.var 3)) (.cons (.sel 6 (.var 7) (.var 3)) .nil))))))))))))))) .lnil)) .nil)))))))
    (.ite (.bin .lt (.n 1) (.un .len (.var 9)))
     (.ret (.cons (.n 0) (.cons .lnil (.cons (.t false) (.cons (.var 3) (.cons (.var 9) .nil))))))
     (.ret (.cons (.n (-1)) (.cons (.var 0) (.cons (.var 1) (.cons (.bin (.add .i64) (.var 3) (.n 1)) (.cons (.var 9) .nil)))))))))
   (.ret (.cons (.n 1) (.cons (.var 0) (.cons (.var 1) (.cons (.var 3) (.cons (.var 9) .nil)))))))
theorem le34_0 : (loopVT Try.prog (sgOf sg34) (ltOf lt34) L34_0 lb34_0).slim L34_0.nv [] = rt34_0 := by kernel_rfl
theorem lf34_0 : (firstRegion lb34_0).bind (ltOf lt34) = some L34_0 := by kernel_rfl
theorem lk34_0 : (Code.loops lb34_0).length = 0 := by kernel_rfl
def vt34 : VT :=
  (.need (.t true) (.c (.bin .le (.n 0) (.bin (.sub .i64) (.un .len (.var 2)) (.n 1))))
  (.need (.t true) (.c (.bin .lt (.bin (.sub .i64) (.un .len (.var 2)) (.n 1)) (.un .len (.var 2))))
  (.need (.t true) (.pre 13400 (.cons .lnil (.cons (.t false) (.cons (.bin (.sub .i64) (.un .len (.var 2)) (.n 1)) (.cons (.n 0) (.cons (.var 0) (.cons (.var 1) (.cons (.var 2) (.cons (.var 3) (.cons (.var 4) (.cons (.lcons (.cons (.n 1) (.cons (.n 0) (.cons (.sel 0 (.var 2) (.bin (.sub .i64) (.un .len (.var 2)) (.n 1))) (.cons (.sel 1 (.var 2) (.bin (.sub .i64) (.un .len (.var 2)) (.n 1))) (.cons (.sel 2 (.var 2) (.bin (.sub .i64) (.un .len (.var 2)) (.n 1))) (.cons (.sel 3 (.var 2) (.bin (.sub .i64) (.un .len (.var 2)) (.n 1))) (.cons (.sel 4 (.var 2) (.bin (.sub .i64) (.un .len (.var 2)) (.n 1))) (.cons (.sel 5 (.var 2) (.bin (.sub .i64) (.un .len (.var 2)) (.n 1))) (.cons (.n 0) (.cons (.n 0) (.cons (.n 0) (.cons (.n 0) (.cons (.str ⟨#[]⟩) (.cons (.n 0) (.cons (.n 0) .nil))))))))))))))) .lnil) .nil)))))))))))
  (.lt (.app 13400 (.cons .lnil (.cons (.t false) (.cons (.bin (.sub .i64) (.un .len (.var 2)) (.n 1)) (.cons (.n 0) (.cons (.var 0) (.cons (.var 1) (.cons (.var 2) (.cons (.var 3) (.cons (.var 4) (.cons (.lcons (.cons (.n 1) (.cons (.n 0) (.cons (.sel 0 (.var 2) (.bin (.sub .i64) (.un .len (.var 2)) (.n 1))) (.cons (.sel 1 (.var 2) (.bin (.sub .i64) (.un .len (.var 2)) (.n 1))) (.cons (.sel 2 (.var 2) (.bin (.sub .i64) (.un .len (.var 2)) (.n 1))) (.cons (.sel 3 (.var 2) (.bin (.sub .i64) (.un .len (.var 2)) (.n 1))) (.cons (.sel 4 (.var 2) (.bin (.sub .i64) (.un .len (.var 2)) (.n 1))) (.cons (.sel 5 (.var 2) (.bin (.sub .i64) (.un .len (.var 2)) (.n 1))) (.cons (.n 0) (.cons (.n 0) (.cons (.n 0) (.cons (.n 0) (.cons (.str ⟨#[]⟩) (.cons (.n 0) (.cons (.n 0) .nil))))))))))))))) .lnil) .nil)))))))))) 0) 5
  (.ite (.bin .eq (.var 5) (.n 0))
   (.ret (.cons (.var 6) (.cons (.var 7) .nil)))
   (.ret (.cons (.var 9) (.cons (.t true) .nil))))))))
theorem e34 : (fnVT Try.prog (sgOf sg34) (ltOf lt34) S34 Try.f34 c34).slim (S34.ps.map fun p => p.2.length).sum [] = vt34 := by kernel_rfl

/-! ### 14 -/
def S14 : Sig := ⟨[(true, [.str, .bool, (.sl 29 [.str, .str, (.int .i64), (.int .i64), (.int .i64), (.sl 75 [.str, (.int .i64)])]), (.sl 31 [(.int .i64), (.int .i64), (.int .i64), (.int .i64), .str, (.int .i64), (.int .i64)]), (.sl 61 [.str, (.int .i64)])]), (true, [(.int .i64), (.int .i64), .str, .str, (.int .i64), (.int .i64), (.int .i64), (.sl 75 [.str, (.int .i64)]), (.int .i64), (.int .i64), (.int .i64), (.int .i64), .str, (.int .i64), (.int .i64)])], [(false, [(.sl 33 [(.int .i64), (.int .i64), .str, .str, (.int .i64), (.int .i64), (.int .i64), (.sl 75 [.str, (.int .i64)]), (.int .i64), (.int .i64), (.int .i64), (.int .i64), .str, (.int .i64), (.int .i64)])]), (false, [(.int .i64)])], [], none⟩
noncomputable def c14 : Code := Try.f14.body.getD .skip
theorem b14 : Try.f14.body = some c14 := body_some (by kernel_rfl)
theorem n14 : (Try.f14.name == "runtime.NumGoroutine") = false := by kernel_rfl
def sg14 : List (FuncId × Sig) := [(11, S11), (34, S34)]
def lt14 : List (Nat × LoopSig) := []
theorem k14 : (Code.loops c14).length = 0 := by kernel_rfl
def vt14 : VT :=
  (.need (.t true) (.pre 11 (.cons (.var 0) (.cons (.var 1) (.cons (.var 2) (.cons (.var 3) (.cons (.var 4) (.cons (.var 5) (.cons (.var 6) (.cons (.var 7) (.cons (.var 8) (.cons (.var 9) (.cons (.var 10) (.cons (.var 11) (.cons (.var 12) (.cons (.var 13) (.cons (.var 14) (.cons (.var 15) (.cons (.var 16) (.cons (.var 17) (.cons (.var 18) (.cons (.var 19) .nil)))))))))))))))))))))
  (.lt (.app 11 (.cons (.var 0) (.cons (.var 1) (.cons (.var 2) (.cons (.var 3) (.cons (.var 4) (.cons (.var 5) (.cons (.var 6) (.cons (.var 7) (.cons (.var 8) (.cons (.var 9) (.cons (.var 10) (.cons (.var 11) (.cons (.var 12) (.cons (.var 13) (.cons (.var 14) (.cons (.var 15) (.cons (.var 16) (.cons (.var 17) (.cons (.var 18) (.cons (.var 19) .nil)))))))))))))))))))) 0) 6
  (.ite (.un .not (.bin .eq (.var 25) (.n 0)))
   (.ret (.cons .lnil (.cons (.var 25) .nil)))
   (.ite (.bin .eq (.var 5) (.n 1))
    (.ret (.cons (.lcons (.cons (.n 2) (.cons (.un .len (.var 2)) (.cons (.str ⟨#[]⟩) (.cons (.str ⟨#[]⟩) (.cons (.n 0) (.cons (.n 0) (.cons (.n 0) (.cons .lnil (.cons (.n 0) (.cons (.n 0) (.cons (.n 0) (.cons (.n 0) (.cons (.str ⟨#[]⟩) (.cons (.n 0) (.cons (.n 0) .nil))))))))))))))) .lnil) (.cons (.n 0) .nil)))
    (.ite (.bin .eq (.var 5) (.n 3))
     (.ret (.cons (.lcons (.cons (.n 4) (.cons (.un .len (.var 3)) (.cons (.str ⟨#[]⟩) (.cons (.str ⟨#[]⟩) (.cons (.n 0) (.cons (.n 0) (.cons (.n 0) (.cons .lnil (.cons (.n 0) (.cons (.n 0) (.cons (.n 0) (.cons (.n 0) (.cons (.str ⟨#[]⟩) (.cons (.n 0) (.cons (.n 0) .nil))))))))))))))) .lnil) (.cons (.n 0) .nil)))
     (.ite (.bin .eq (.var 5) (.n 5))
      (.need (.t true) (.c (.bin .le (.n 0) (.var 6)))
      (.need (.t true) (.c (.bin .lt (.var 6) (.un .len (.var 2))))
      (.ret (.cons (.lcons (.cons (.n 5) (.cons (.var 6) (.cons (.str ⟨#[]⟩) (.cons (.str ⟨#[]⟩) (.cons (.sel 2 (.var 2) (.var 6)) (.cons (.sel 3 (.var 2) (.var 6)) (.cons (.n 0) (.cons .lnil (.cons (.n 0) (.cons (.n 0) (.cons (.n 0) (.cons (.n 0) (.cons (.str ⟨#[]⟩) (.cons (.n 0) (.cons (.n 0) .nil))))))))))))))) .lnil) (.cons (.n 0) .nil)))))
      (.ite (.bin .eq (.var 5) (.n 6))
       (.need (.t true) (.c (.bin .le (.n 0) (.var 6)))
       (.need (.t true) (.c (.bin .lt (.var 6) (.un .len (.var 2))))
       (.ret (.cons (.lcons (.cons (.n 6) (.cons (.var 6) (.cons (.str ⟨#[]⟩) (.cons (.sel 1 (.var 2) (.var 6)) (.cons (.n 0) (.cons (.n 0) (.cons (.n 0) (.cons .lnil (.cons (.n 0) (.cons (.n 0) (.cons (.n 0) (.cons (.n 0) (.cons (.str ⟨#[]⟩) (.cons (.n 0) (.cons (.n 0) .nil))))))))))))))) .lnil) (.cons (.n 0) .nil)))))
       (.ite (.bin .eq (.var 5) (.n 4))
        (.ite (.bin .eq (.var 6) (.bin (.sub .i64) (.un .len (.var 3)) (.n 1)))
         (.need (.t true) (.c (.bin .le (.n 0) (.var 6)))
         (.need (.t true) (.c (.bin .lt (.var 6) (.un .len (.var 3))))
         (.ret (.cons (.lcons (.cons (.n 3) (.cons (.n 0) (.cons (.str ⟨#[]⟩) (.cons (.str ⟨#[]⟩) (.cons (.n 0) (.cons (.n 0) (.cons (.n 0) (.cons .lnil (.cons (.sel 0 (.var 3) (.var 6)) (.cons (.sel 1 (.var 3) (.var 6)) (.cons (.sel 2 (.var 3) (.var 6)) (.cons (.sel 3 (.var 3) (.var 6)) (.cons (.sel 4 (.var 3) (.var 6)) (.cons (.sel 5 (.var 3) (.var 6)) (.cons (.sel 6 (.var 3) (.var 6)) .nil))))))))))))))) .lnil) (.cons (.n 0) .nil)))))
         (.ret (.cons .lnil (.cons (.n 1) .nil))))
        (.ite (.bin .eq (.var 5) (.n 2))
         (.need (.t true) (.pre 34 (.cons (.var 0) (.cons (.var 1) (.cons (.var 2) (.cons (.var 3) (.cons (.var 4) .nil))))))
         (.lt (.app 34 (.cons (.var 0) (.cons (.var 1) (.cons (.var 2) (.cons (.var 3) (.cons (.var 4) .nil))))) 0) 2
         (.ite (.ite (.bin .eq (.var 6) (.bin (.sub .i64) (.un .len (.var 2)) (.n 1))) (.var 27) (.t false))
          (.ret (.cons (.var 26) (.cons (.n 0) .nil)))
          (.ret (.cons .lnil (.cons (.n 1) .nil))))))
         (.ret (.cons .lnil (.cons (.n 1) .nil))))))))))))
theorem e14 : (fnVT Try.prog (sgOf sg14) (ltOf lt14) S14 Try.f14 c14).slim (S14.ps.map fun p => p.2.length).sum [] = vt14 := by kernel_rfl

/-! ### 35 -/
def S35 : Sig := ⟨[(false, [(.sl 75 [.str, (.int .i64)])]), (false, [(.sl 75 [.str, (.int .i64)])])], [(false, [.bool])], [], none⟩
noncomputable def c35 : Code := Try.f35.body.getD .skip
theorem b35 : Try.f35.body = some c35 := body_some (by kernel_rfl)
theorem n35 : (Try.f35.name == "runtime.NumGoroutine") = false := by kernel_rfl
def sg35 : List (FuncId × Sig) := []
def L35_0 : LoopSig := ⟨13500, [],
   ⟨[(.c (.x (.sl 75 [.str, (.int .i64)]) (.var 0))), (.c (.x (.sl 75 [.str, (.int .i64)]) (.var 1))), .any, .any, (.c (.x .bool (.var 2))), (.c (.x (.int .i64) (.var 3))), .any, .any, .any, .any, .any, .any, .any, .any, .any, .any, .any, .any, .any, .any, .any, .any, .any, .any, .any, .any],
    []⟩,
   4, [2, 3], [11, 12, 13, 14, 17, 18, 19, 20, 21, 22, 23, 24, 25, 4, 15, 16, 5], [.ret, (.exit 0)], []⟩
def lt35 : List (Nat × LoopSig) := [(4, L35_0)]
theorem k35 : (Code.loops c35).length = 1 := by kernel_rfl
noncomputable def lb35_0 : Code := (Code.loops c35).getD 0 .skip
def rt35_0 : VT :=
  (.ite (.bin .lt (.var 3) (.un .len (.var 0)))
   (.need (.t true) (.c (.bin .le (.n 0) (.var 3)))
   (.need (.t true) (.c (.bin .lt (.var 3) (.un .len (.var 1))))
   (.ite (.un .not (.ite (.bin .seq (.sel 0 (.var 0) (.var 3)) (.sel 0 (.var 1) (.var 3))) (.bin .eq (.sel 1 (.var 0) (.var 3)) (.sel 1 (.var 1) (.var 3))) (.t false)))
    (.ret (.cons (.n 0) (.cons (.t false) (.cons (.var 3) .nil))))
    (.ret (.cons (.n (-1)) (.cons (.var 2) (.cons (.bin (.add .i64) (.var 3) (.n 1)) .nil)))))))
   (.ret (.cons (.n 1) (.cons (.var 2) (.cons (.var 3) .nil)))))
theorem le35_0 : (loopVT Try.prog (sgOf sg35) (ltOf lt35) L35_0 lb35_0).slim L35_0.nv [] = rt35_0 := by kernel_rfl
theorem lf35_0 : (firstRegion lb35_0).bind (ltOf lt35) = some L35_0 := by kernel_rfl
theorem lk35_0 : (Code.loops lb35_0).length = 0 := by kernel_rfl
def vt35 : VT :=
  (.ite (.un .not (.bin .eq (.un .len (.var 0)) (.un .len (.var 1))))
   (.ret (.cons (.t false) .nil))
   (.need (.t true) (.pre 13500 (.cons (.var 0) (.cons (.var 1) (.cons (.t false) (.cons (.n 0) .nil)))))
   (.lt (.app 13500 (.cons (.var 0) (.cons (.var 1) (.cons (.t false) (.cons (.n 0) .nil)))) 0) 3
   (.ite (.bin .eq (.var 2) (.n 0))
    (.ret (.cons (.var 3) .nil))
    (.ret (.cons (.t true) .nil))))))
theorem e35 : (fnVT Try.prog (sgOf sg35) (ltOf lt35) S35 Try.f35 c35).slim (S35.ps.map fun p => p.2.length).sum [] = vt35 := by kernel_rfl

/-! ### 15 -/
def S15 : Sig := ⟨[(false, [(.sl 33 [(.int .i64), (.int .i64), .str, .str, (.int .i64), (.int .i64), (.int .i64), (.sl 75 [.str, (.int .i64)]), (.int .i64), (.int .i64), (.int .i64), (.int .i64), .str, (.int .i64), (.int .i64)])]), (false, [(.sl 33 [(.int .i64), (.int .i64), .str, .str, (.int .i64), (.int .i64), (.int .i64), (.sl 75 [.str, (.int .i64)]), (.int .i64), (.int .i64), (.int .i64), (.int .i64), .str, (.int .i64), (.int .i64)])])], [(false, [.bool])], [], none⟩
noncomputable def c15 : Code := Try.f15.body.getD .skip
theorem b15 : Try.f15.body = some c15 := body_some (by kernel_rfl)
theorem n15 : (Try.f15.name == "runtime.NumGoroutine") = false := by kernel_rfl
def sg15 : List (FuncId × Sig) := [(35, S35)]
def L15_0 : LoopSig := ⟨11500, [],
   ⟨[(.c (.x (.sl 33 [(.int .i64), (.int .i64), .str, .str, (.int .i64), (.int .i64), (.int .i64), (.sl 75 [.str, (.int .i64)]), (.int .i64), (.int .i64), (.int .i64), (.int .i64), .str, (.int .i64), (.int .i64)]) (.var 0))), (.c (.x (.sl 33 [(.int .i64), (.int .i64), .str, .str, (.int .i64), (.int .i64), (.int .i64), (.sl 75 [.str, (.int .i64)]), (.int .i64), (.int .i64), (.int .i64), (.int .i64), .str, (.int .i64), (.int .i64)]) (.var 1))), .any, .any, (.c (.x .bool (.var 2))), (.c (.x (.int .i64) (.var 3))), .any, .any, .any, .any, .any, .any, .any, .any, .any, .any, .any, .any, .any, .any, .any, .any, .any, .any, .any, .any, .any, .any, .any, .any, .any, .any, .any, .any, .any, .any, .any, .any, .any, .any, .any, .any, .any, .any, .any, .any, .any, .any, .any, .any, .any, .any, .any, .any, .any, .any, .any, .any, .any, .any, .any, .any, .any, .any, .any, .any, .any, .any, .any, .any, .any, .any, .any, .any, .any, .any, .any, .any, .any, .any, .any, .any, .any, .any, .any, .any, .any, .any, .any, .any, .any, .any, .any, .any, .any],
    []⟩,
   4, [2, 3], [15, 16, 17, 18, 21, 22, 23, 24, 25, 26, 27, 28, 6, 7, 29, 30, 31, 32, 8, 9, 33, 34, 35, 36, 37, 38, 39, 40, 41, 42, 43, 44, 45, 46, 47, 48, 49, 50, 51, 52, 53, 54, 55, 56, 57, 58, 59, 60, 61, 62, 63, 64, 65, 66, 67, 68, 69, 70, 71, 72, 73, 74, 75, 76, 77, 78, 79, 80, 81, 82, 83, 84, 85, 86, 87, 88, 89, 90, 91, 92, 93, 94, 4, 19, 20, 5], [.ret, (.exit 0)], []⟩
def lt15 : List (Nat × LoopSig) := [(4, L15_0)]
theorem k15 : (Code.loops c15).length = 1 := by kernel_rfl
noncomputable def lb15_0 : Code := (Code.loops c15).getD 0 .skip
def rt15_0 : VT :=
  (.ite (.bin .lt (.var 3) (.un .len (.var 0)))
   (.need (.t true) (.c (.bin .le (.n 0) (.var 3)))
   (.need (.t true) (.c (.bin .lt (.var 3) (.un .len (.var 1))))
   (.need (.un .not (.ite (.ite (.ite (.ite (.ite (.ite (.ite (.un .not (.bin .eq (.sel 0 (.var 0) (.var 3)) (.sel 0 (.var 1) (.var 3)))) (.t true) (.un .not (.bin .eq (.sel 1 (.var 0) (.var 3)) (.sel 1 (.var 1) (.var 3))))) (.t true) (.un .not (.ite (.bin .eq (.sel 8 (.var 0) (.var 3)) (.sel 8 (.var 1) (.var 3))) (.ite (.bin .eq (.sel 9 (.var 0) (.var 3)) (.sel 9 (.var 1) (.var 3))) (.ite (.bin .eq (.sel 10 (.var 0) (.var 3)) (.sel 10 (.var 1) (.var 3))) (.ite (.bin .eq (.sel 11 (.var 0) (.var 3)) (.sel 11 (.var 1) (.var 3))) (.ite (.bin .seq (.sel 12 (.var 0) (.var 3)) (.sel 12 (.var 1) (.var 3))) (.ite (.bin .eq (.sel 13 (.var 0) (.var 3)) (.sel 13 (.var 1) (.var 3))) (.bin .eq (.sel 14 (.var 0) (.var 3)) (.sel 14 (.var 1) (.var 3))) (.t false)) (.t false)) (.t false)) (.t false)) (.t false)) (.t false)))) (.t true) (.un .not (.bin .seq (.sel 2 (.var 0) (.var 3)) (.sel 2 (.var 1) (.var 3))))) (.t true) (.un .not (.bin .seq (.sel 3 (.var 0) (.var 3)) (.sel 3 (.var 1) (.var 3))))) (.t true) (.un .not (.bin .eq (.sel 4 (.var 0) (.var 3)) (.sel 4 (.var 1) (.var 3))))) (.t true) (.un .not (.bin .eq (.sel 5 (.var 0) (.var 3)) (.sel 5 (.var 1) (.var 3))))) (.t true) (.un .not (.bin .eq (.sel 6 (.var 0) (.var 3)) (.sel 6 (.var 1) (.var 3)))))) (.pre 35 (.cons (.sel 7 (.var 0) (.var 3)) (.cons (.sel 7 (.var 1) (.var 3)) .nil)))
   (.lt (.app 35 (.cons (.sel 7 (.var 0) (.var 3)) (.cons (.sel 7 (.var 1) (.var 3)) .nil)) 0) 1
   (.ite (.ite (.ite (.ite (.ite (.ite (.ite (.ite (.ite (.un .not (.bin .eq (.sel 0 (.var 0) (.var 3)) (.sel 0 (.var 1) (.var 3)))) (.t true) (.un .not (.bin .eq (.sel 1 (.var 0) (.var 3)) (.sel 1 (.var 1) (.var 3))))) (.t true) (.un .not (.ite (.bin .eq (.sel 8 (.var 0) (.var 3)) (.sel 8 (.var 1) (.var 3))) (.ite (.bin .eq (.sel 9 (.var 0) (.var 3)) (.sel 9 (.var 1) (.var 3))) (.ite (.bin .eq (.sel 10 (.var 0) (.var 3)) (.sel 10 (.var 1) (.var 3))) (.ite (.bin .eq (.sel 11 (.var 0) (.var 3)) (.sel 11 (.var 1) (.var 3))) (.ite (.bin .seq (.sel 12 (.var 0) (.var 3)) (.sel 12 (.var 1) (.var 3))) (.ite (.bin .eq (.sel 13 (.var 0) (.var 3)) (.sel 13 (.var 1) (.var 3))) (.bin .eq (.sel 14 (.var 0) (.var 3)) (.sel 14 (.var 1) (.var 3))) (.t false)) (.t false)) (.t false)) (.t false)) (.t false)) (.t false)))) (.t true) (.un .not (.bin .seq (.sel 2 (.var 0) (.var 3)) (.sel 2 (.var 1) (.var 3))))) (.t true) (.un .not (.bin .seq (.sel 3 (.var 0) (.var 3)) (.sel 3 (.var 1) (.var 3))))) (.t true) (.un .not (.bin .eq (.sel 4 (.var 0) (.var 3)) (.sel 4 (.var 1) (.var 3))))) (.t true) (.un .not (.bin .eq (.sel 5 (.var 0) (.var 3)) (.sel 5 (.var 1) (.var 3))))) (.t true) (.un .not (.bin .eq (.sel 6 (.var 0) (.var 3)) (.sel 6 (.var 1) (.var 3))))) (.t true) (.un .not (.var 4)))
    (.ret (.cons (.n 0) (.cons (.t false) (.cons (.var 3) .nil))))
    (.ret (.cons (.n (-1)) (.cons (.var 2) (.cons (.bin (.add .i64) (.var 3) (.n 1)) .nil)))))))))
   (.ret (.cons (.n 1) (.cons (.var 2) (.cons (.var 3) .nil)))))
theorem le15_0 : (loopVT Try.prog (sgOf sg15) (ltOf lt15) L15_0 lb15_0).slim L15_0.nv [] = rt15_0 := by kernel_rfl
theorem lf15_0 : (firstRegion lb15_0).bind (ltOf lt15) = some L15_0 := by kernel_rfl
theorem lk15_0 : (Code.loops lb15_0).length = 0 := by kernel_rfl
def vt15 : VT :=
  (.ite (.un .not (.bin .eq (.un .len (.var 0)) (.un .len (.var 1))))
   (.ret (.cons (.t false) .nil))
   (.need (.t true) (.pre 11500 (.cons (.var 0) (.cons (.var 1) (.cons (.t false) (.cons (.n 0) .nil)))))
   (.lt (.app 11500 (.cons (.var 0) (.cons (.var 1) (.cons (.t false) (.cons (.n 0) .nil)))) 0) 3
   (.ite (.bin .eq (.var 2) (.n 0))
    (.ret (.cons (.var 3) .nil))
    (.ret (.cons (.t true) .nil))))))
theorem e15 : (fnVT Try.prog (sgOf sg15) (ltOf lt15) S15 Try.f15 c15).slim (S15.ps.map fun p => p.2.length).sum [] = vt15 := by kernel_rfl

/-! ### 4 -/
def S4 : Sig := ⟨[(true, [.str, .bool, (.sl 29 [.str, .str, (.int .i64), (.int .i64), (.int .i64), (.sl 75 [.str, (.int .i64)])]), (.sl 31 [(.int .i64), (.int .i64), (.int .i64), (.int .i64), .str, (.int .i64), (.int .i64)]), (.sl 61 [.str, (.int .i64)])]), (true, [(.int .i64), (.int .i64), .str, .str, (.int .i64), (.int .i64), (.int .i64), (.sl 75 [.str, (.int .i64)]), (.int .i64), (.int .i64), (.int .i64), (.int .i64), .str, (.int .i64), (.int .i64)])], [(false, [.bool])], [], none⟩
noncomputable def c4 : Code := Try.f4.body.getD .skip
theorem b4 : Try.f4.body = some c4 := body_some (by kernel_rfl)
theorem n4 : (Try.f4.name == "runtime.NumGoroutine") = false := by kernel_rfl
def sg4 : List (FuncId × Sig) := [(8, S8), (9, S9), (13, S13), (14, S14), (15, S15)]
def lt4 : List (Nat × LoopSig) := []
theorem k4 : (Code.loops c4).length = 0 := by kernel_rfl
def vt4 : VT :=
  (.need (.t true) (.pre 8 (.cons (.var 0) (.cons (.var 1) (.cons (.var 2) (.cons (.var 3) (.cons (.var 4) (.cons (.lcons (.cons (.var 5) (.cons (.var 6) (.cons (.var 7) (.cons (.var 8) (.cons (.var 9) (.cons (.var 10) (.cons (.var 11) (.cons (.var 12) (.cons (.var 13) (.cons (.var 14) (.cons (.var 15) (.cons (.var 16) (.cons (.var 17) (.cons (.var 18) (.cons (.var 19) .nil))))))))))))))) .lnil) .nil)))))))
  (.lt (.app 8 (.cons (.var 0) (.cons (.var 1) (.cons (.var 2) (.cons (.var 3) (.cons (.var 4) (.cons (.lcons (.cons (.var 5) (.cons (.var 6) (.cons (.var 7) (.cons (.var 8) (.cons (.var 9) (.cons (.var 10) (.cons (.var 11) (.cons (.var 12) (.cons (.var 13) (.cons (.var 14) (.cons (.var 15) (.cons (.var 16) (.cons (.var 17) (.cons (.var 18) (.cons (.var 19) .nil))))))))))))))) .lnil) .nil)))))) 0) 1
  (.ite (.un .not (.var 20))
   (.need (.t true) (.pre 9 .nil)
   (.lt (.app 9 .nil 0) 1
   (.ret (.cons (.var 21) .nil))))
   (.need (.t true) (.pre 13 (.cons (.var 0) (.cons (.var 1) (.cons (.var 2) (.cons (.var 3) (.cons (.var 4) (.cons (.var 5) (.cons (.var 6) (.cons (.var 7) (.cons (.var 8) (.cons (.var 9) (.cons (.var 10) (.cons (.var 11) (.cons (.var 12) (.cons (.var 13) (.cons (.var 14) (.cons (.var 15) (.cons (.var 16) (.cons (.var 17) (.cons (.var 18) (.cons (.var 19) .nil)))))))))))))))))))))
   (.lt (.app 13 (.cons (.var 0) (.cons (.var 1) (.cons (.var 2) (.cons (.var 3) (.cons (.var 4) (.cons (.var 5) (.cons (.var 6) (.cons (.var 7) (.cons (.var 8) (.cons (.var 9) (.cons (.var 10) (.cons (.var 11) (.cons (.var 12) (.cons (.var 13) (.cons (.var 14) (.cons (.var 15) (.cons (.var 16) (.cons (.var 17) (.cons (.var 18) (.cons (.var 19) .nil)))))))))))))))))))) 0) 2
   (.need (.t true) (.pre 14 (.cons (.var 0) (.cons (.var 1) (.cons (.var 2) (.cons (.var 3) (.cons (.var 4) (.cons (.var 5) (.cons (.var 6) (.cons (.var 7) (.cons (.var 8) (.cons (.var 9) (.cons (.var 10) (.cons (.var 11) (.cons (.var 12) (.cons (.var 13) (.cons (.var 14) (.cons (.var 15) (.cons (.var 16) (.cons (.var 17) (.cons (.var 18) (.cons (.var 19) .nil)))))))))))))))))))))
   (.lt (.app 14 (.cons (.var 0) (.cons (.var 1) (.cons (.var 2) (.cons (.var 3) (.cons (.var 4) (.cons (.var 5) (.cons (.var 6) (.cons (.var 7) (.cons (.var 8) (.cons (.var 9) (.cons (.var 10) (.cons (.var 11) (.cons (.var 12) (.cons (.var 13) (.cons (.var 14) (.cons (.var 15) (.cons (.var 16) (.cons (.var 17) (.cons (.var 18) (.cons (.var 19) .nil)))))))))))))))))))) 0) 2
   (.need (.t true) (.pre 15 (.cons (.var 21) (.cons (.var 23) .nil)))
   (.lt (.app 15 (.cons (.var 21) (.cons (.var 23) .nil)) 0) 1
   (.need (.ite (.var 25) (.bin .eq (.var 22) (.var 24)) (.t false)) (.pre 9 .nil)
   (.lt (.app 9 .nil 0) 1
   (.ret (.cons (.ite (.ite (.var 25) (.bin .eq (.var 22) (.var 24)) (.t false)) (.var 26) (.t false)) .nil)))))))))))))
theorem e4 : (fnVT Try.prog (sgOf sg4) (ltOf lt4) S4 Try.f4 c4).slim (S4.ps.map fun p => p.2.length).sum [] = vt4 := by kernel_rfl

/-! ### 16 -/
def S23q : Sig := ⟨[(true, [.str, .bool, (.sl 29 [.str, .str, (.int .i64), (.int .i64), (.int .i64), (.sl 75 [.str, (.int .i64)])]), (.sl 31 [(.int .i64), (.int .i64), (.int .i64), (.int .i64), .str, (.int .i64), (.int .i64)]), (.sl 61 [.str, (.int .i64)])])], [(true, [.str, .bool, (.sl 29 [.str, .str, (.int .i64), (.int .i64), (.int .i64), (.sl 75 [.str, (.int .i64)])]), (.sl 31 [(.int .i64), (.int .i64), (.int .i64), (.int .i64), .str, (.int .i64), (.int .i64)]), (.sl 61 [.str, (.int .i64)])])], [], none⟩
def S16 : Sig := ⟨[(true, [.str, .bool, (.sl 29 [.str, .str, (.int .i64), (.int .i64), (.int .i64), (.sl 75 [.str, (.int .i64)])]), (.sl 31 [(.int .i64), (.int .i64), (.int .i64), (.int .i64), .str, (.int .i64), (.int .i64)]), (.sl 61 [.str, (.int .i64)])]), (false, [(.sl 33 [(.int .i64), (.int .i64), .str, .str, (.int .i64), (.int .i64), (.int .i64), (.sl 75 [.str, (.int .i64)]), (.int .i64), (.int .i64), (.int .i64), (.int .i64), .str, (.int .i64), (.int .i64)])])], [(true, [.str, .bool, (.sl 29 [.str, .str, (.int .i64), (.int .i64), (.int .i64), (.sl 75 [.str, (.int .i64)])]), (.sl 31 [(.int .i64), (.int .i64), (.int .i64), (.int .i64), .str, (.int .i64), (.int .i64)]), (.sl 61 [.str, (.int .i64)])]), (false, [(.int .i64)]), (false, [(.int .i64)])], [], none⟩
noncomputable def c16 : Code := Try.f16.body.getD .skip
theorem b16 : Try.f16.body = some c16 := body_some (by kernel_rfl)
theorem n16 : (Try.f16.name == "runtime.NumGoroutine") = false := by kernel_rfl
def sg16 : List (FuncId × Sig) := [(21, S21), (23, S23q), (10, S10)]
def L16_0 : LoopSig := ⟨11600, [],
   ⟨[.any, .any, .any, .any, (.c (.ptr 1 0)), (.c (.x (.int .i64) (.var 0))), (.c (.x (.int .i64) (.var 1))), (.c (.ptr 2 0)), .any, .any, .any, .any, .any, .any, .any, .any, .any, .any, (.c (.x (.sl 33 [(.int .i64), (.int .i64), .str, .str, (.int .i64), (.int .i64), (.int .i64), (.sl 75 [.str, (.int .i64)]), (.int .i64), (.int .i64), (.int .i64), (.int .i64), .str, (.int .i64), (.int .i64)]) (.var 2))), (.c (.x (.int .i64) (.var 3))), (.c (.x (.int .i64) (.var 4))), .any, .any, .any, .any, .any, .any, .any, .any, .any, .any, .any, .any, .any, .any, .any, .any, .any, .any, .any, .any],
    [none, some ⟨(.t true), (.box 26 [(.x .str (.var 5)), (.x .bool (.var 6)), (.x (.sl 29 [.str, .str, (.int .i64), (.int .i64), (.int .i64), (.sl 75 [.str, (.int .i64)])]) (.var 7)), (.x (.sl 31 [(.int .i64), (.int .i64), (.int .i64), (.int .i64), .str, (.int .i64), (.int .i64)]) (.var 8)), (.x (.sl 61 [.str, (.int .i64)]) (.var 9))] false)⟩, some ⟨(.t true), (.box 26 [(.x .str (.var 10)), (.x .bool (.var 11)), (.x (.sl 29 [.str, .str, (.int .i64), (.int .i64), (.int .i64), (.sl 75 [.str, (.int .i64)])]) (.var 12)), (.x (.sl 31 [(.int .i64), (.int .i64), (.int .i64), (.int .i64), .str, (.int .i64), (.int .i64)]) (.var 13)), (.x (.sl 61 [.str, (.int .i64)]) (.var 14))] false)⟩]⟩,
   15, [0, 1, 4, 5, 6, 7, 8, 9, 10, 11, 12, 13, 14], [21, 22, 23, 24, 9, 8, 26, 27, 28, 25, 29, 30, 10, 11, 31, 32, 33, 34, 35, 5, 6, 36, 37, 20], [.ret, (.exit 0)], []⟩
def lt16 : List (Nat × LoopSig) := [(5, L16_0)]
theorem k16 : (Code.loops c16).length = 1 := by kernel_rfl
noncomputable def lb16_0 : Code := (Code.loops c16).getD 0 .skip
def rt16_0 : VT :=
  (.ite (.bin .lt (.var 4) (.var 3))
   (.need (.t true) (.c (.bin .le (.n 0) (.var 4)))
   (.need (.t true) (.c (.bin .lt (.var 4) (.un .len (.var 2))))
   (.need (.t true) (.pre 10 (.cons (.var 10) (.cons (.var 11) (.cons (.var 12) (.cons (.var 13) (.cons (.var 14) (.cons (.sel 0 (.var 2) (.var 4)) (.cons (.sel 1 (.var 2) (.var 4)) (.cons (.sel 2 (.var 2) (.var 4)) (.cons (.sel 3 (.var 2) (.var 4)) (.cons (.sel 4 (.var 2) (.var 4)) (.cons (.sel 5 (.var 2) (.var 4)) (.cons (.sel 6 (.var 2) (.var 4)) (.cons (.sel 7 (.var 2) (.var 4)) (.cons (.sel 8 (.var 2) (.var 4)) (.cons (.sel 9 (.var 2) (.var 4)) (.cons (.sel 10 (.var 2) (.var 4)) (.cons (.sel 11 (.var 2) (.var 4)) (.cons (.sel 12 (.var 2) (.var 4)) (.cons (.sel 13 (.var 2) (.var 4)) (.cons (.sel 14 (.var 2) (.var 4)) .nil)))))))))))))))))))))
   (.lt (.app 10 (.cons (.var 10) (.cons (.var 11) (.cons (.var 12) (.cons (.var 13) (.cons (.var 14) (.cons (.sel 0 (.var 2) (.var 4)) (.cons (.sel 1 (.var 2) (.var 4)) (.cons (.sel 2 (.var 2) (.var 4)) (.cons (.sel 3 (.var 2) (.var 4)) (.cons (.sel 4 (.var 2) (.var 4)) (.cons (.sel 5 (.var 2) (.var 4)) (.cons (.sel 6 (.var 2) (.var 4)) (.cons (.sel 7 (.var 2) (.var 4)) (.cons (.sel 8 (.var 2) (.var 4)) (.cons (.sel 9 (.var 2) (.var 4)) (.cons (.sel 10 (.var 2) (.var 4)) (.cons (.sel 11 (.var 2) (.var 4)) (.cons (.sel 12 (.var 2) (.var 4)) (.cons (.sel 13 (.var 2) (.var 4)) (.cons (.sel 14 (.var 2) (.var 4)) .nil)))))))))))))))))))) 0) 6
   (.ite (.un .not (.bin .eq (.var 20) (.n 0)))
    (.ret (.cons (.n 0) (.cons (.var 4) (.cons (.var 20) (.cons (.var 4) (.cons (.str ⟨#[]⟩) (.cons (.t false) (.cons .lnil (.cons .lnil (.cons .lnil (.cons (.var 10) (.cons (.var 11) (.cons (.var 12) (.cons (.var 13) (.cons (.var 14) .nil)))))))))))))))
    (.ret (.cons (.n (-1)) (.cons (.var 0) (.cons (.var 1) (.cons (.bin (.add .i64) (.var 4) (.n 1)) (.cons (.var 5) (.cons (.var 6) (.cons (.var 7) (.cons (.var 8) (.cons (.var 9) (.cons (.var 15) (.cons (.var 16) (.cons (.var 17) (.cons (.var 18) (.cons (.var 19) .nil))))))))))))))))))))
   (.ret (.cons (.n 1) (.cons (.var 0) (.cons (.var 1) (.cons (.var 4) (.cons (.var 5) (.cons (.var 6) (.cons (.var 7) (.cons (.var 8) (.cons (.var 9) (.cons (.var 10) (.cons (.var 11) (.cons (.var 12) (.cons (.var 13) (.cons (.var 14) .nil))))))))))))))))
theorem le16_0 : (loopVT Try.prog (sgOf sg16) (ltOf lt16) L16_0 lb16_0).slim L16_0.nv [] = rt16_0 := by kernel_rfl
theorem lf16_0 : (firstRegion lb16_0).bind (ltOf lt16) = some L16_0 := by kernel_rfl
theorem lk16_0 : (Code.loops lb16_0).length = 0 := by kernel_rfl
def vt16 : VT :=
  (.need (.t true) (.pre 21 (.cons (.var 0) (.cons (.var 1) (.cons (.var 2) (.cons (.var 3) (.cons (.var 4) .nil))))))
  (.lt (.app 21 (.cons (.var 0) (.cons (.var 1) (.cons (.var 2) (.cons (.var 3) (.cons (.var 4) .nil))))) 0) 1
  (.ite (.un .not (.bin .eq (.var 6) (.n 0)))
   (.ret (.cons (.str ⟨#[]⟩) (.cons (.t false) (.cons .lnil (.cons .lnil (.cons .lnil (.cons (.n 0) (.cons (.n 1) .nil))))))))
   (.need (.t true) (.pre 23 (.cons (.var 0) (.cons (.var 1) (.cons (.var 2) (.cons (.var 3) (.cons (.var 4) .nil))))))
   (.lt (.app 23 (.cons (.var 0) (.cons (.var 1) (.cons (.var 2) (.cons (.var 3) (.cons (.var 4) .nil))))) 0) 5
   (.need (.t true) (.pre 11600 (.cons (.n 0) (.cons (.n 0) (.cons (.var 5) (.cons (.un .len (.var 5)) (.cons (.n 0) (.cons (.str ⟨#[]⟩) (.cons (.t false) (.cons .lnil (.cons .lnil (.cons .lnil (.cons (.var 7) (.cons (.var 8) (.cons (.var 9) (.cons (.var 10) (.cons (.var 11) .nil))))))))))))))))
   (.lt (.app 11600 (.cons (.n 0) (.cons (.n 0) (.cons (.var 5) (.cons (.un .len (.var 5)) (.cons (.n 0) (.cons (.str ⟨#[]⟩) (.cons (.t false) (.cons .lnil (.cons .lnil (.cons .lnil (.cons (.var 7) (.cons (.var 8) (.cons (.var 9) (.cons (.var 10) (.cons (.var 11) .nil))))))))))))))) 0) 14
   (.ite (.bin .eq (.var 12) (.n 0))
    (.ret (.cons (.var 16) (.cons (.var 17) (.cons (.var 18) (.cons (.var 19) (.cons (.var 20) (.cons (.var 13) (.cons (.var 14) .nil))))))))
    (.ret (.cons (.var 21) (.cons (.var 22) (.cons (.var 23) (.cons (.var 24) (.cons (.var 25) (.cons (.un .len (.var 5)) (.cons (.n 0) .nil))))))))))))))))
theorem e16 : (fnVT Try.prog (sgOf sg16) (ltOf lt16) S16 Try.f16 c16).slim (S16.ps.map fun p => p.2.length).sum [] = vt16 := by kernel_rfl

/-! ### 5 -/
def S5 : Sig := ⟨[(true, [.str, .bool, (.sl 29 [.str, .str, (.int .i64), (.int .i64), (.int .i64), (.sl 75 [.str, (.int .i64)])]), (.sl 31 [(.int .i64), (.int .i64), (.int .i64), (.int .i64), .str, (.int .i64), (.int .i64)]), (.sl 61 [.str, (.int .i64)])]), (true, [(.int .i64), (.int .i64), .str, .str, (.int .i64), (.int .i64), (.int .i64), (.sl 75 [.str, (.int .i64)]), (.int .i64), (.int .i64), (.int .i64), (.int .i64), .str, (.int .i64), (.int .i64)])], [(false, [.bool])], [], none⟩
noncomputable def c5 : Code := Try.f5.body.getD .skip
theorem b5 : Try.f5.body = some c5 := body_some (by kernel_rfl)
theorem n5 : (Try.f5.name == "runtime.NumGoroutine") = false := by kernel_rfl
def sg5 : List (FuncId × Sig) := [(8, S8), (9, S9), (10, S10), (13, S13), (16, S16), (12, S12)]
def lt5 : List (Nat × LoopSig) := []
theorem k5 : (Code.loops c5).length = 0 := by kernel_rfl
def vt5 : VT :=
  (.need (.t true) (.pre 8 (.cons (.var 0) (.cons (.var 1) (.cons (.var 2) (.cons (.var 3) (.cons (.var 4) (.cons (.lcons (.cons (.var 5) (.cons (.var 6) (.cons (.var 7) (.cons (.var 8) (.cons (.var 9) (.cons (.var 10) (.cons (.var 11) (.cons (.var 12) (.cons (.var 13) (.cons (.var 14) (.cons (.var 15) (.cons (.var 16) (.cons (.var 17) (.cons (.var 18) (.cons (.var 19) .nil))))))))))))))) .lnil) .nil)))))))
  (.lt (.app 8 (.cons (.var 0) (.cons (.var 1) (.cons (.var 2) (.cons (.var 3) (.cons (.var 4) (.cons (.lcons (.cons (.var 5) (.cons (.var 6) (.cons (.var 7) (.cons (.var 8) (.cons (.var 9) (.cons (.var 10) (.cons (.var 11) (.cons (.var 12) (.cons (.var 13) (.cons (.var 14) (.cons (.var 15) (.cons (.var 16) (.cons (.var 17) (.cons (.var 18) (.cons (.var 19) .nil))))))))))))))) .lnil) .nil)))))) 0) 1
  (.ite (.un .not (.var 20))
   (.need (.t true) (.pre 9 .nil)
   (.lt (.app 9 .nil 0) 1
   (.ret (.cons (.var 21) .nil))))
   (.need (.t true) (.pre 10 (.cons (.var 0) (.cons (.var 1) (.cons (.var 2) (.cons (.var 3) (.cons (.var 4) (.cons (.var 5) (.cons (.var 6) (.cons (.var 7) (.cons (.var 8) (.cons (.var 9) (.cons (.var 10) (.cons (.var 11) (.cons (.var 12) (.cons (.var 13) (.cons (.var 14) (.cons (.var 15) (.cons (.var 16) (.cons (.var 17) (.cons (.var 18) (.cons (.var 19) .nil)))))))))))))))))))))
   (.lt (.app 10 (.cons (.var 0) (.cons (.var 1) (.cons (.var 2) (.cons (.var 3) (.cons (.var 4) (.cons (.var 5) (.cons (.var 6) (.cons (.var 7) (.cons (.var 8) (.cons (.var 9) (.cons (.var 10) (.cons (.var 11) (.cons (.var 12) (.cons (.var 13) (.cons (.var 14) (.cons (.var 15) (.cons (.var 16) (.cons (.var 17) (.cons (.var 18) (.cons (.var 19) .nil)))))))))))))))))))) 0) 6
   (.need (.t true) (.pre 13 (.cons (.var 0) (.cons (.var 1) (.cons (.var 2) (.cons (.var 3) (.cons (.var 4) (.cons (.var 5) (.cons (.var 6) (.cons (.var 7) (.cons (.var 8) (.cons (.var 9) (.cons (.var 10) (.cons (.var 11) (.cons (.var 12) (.cons (.var 13) (.cons (.var 14) (.cons (.var 15) (.cons (.var 16) (.cons (.var 17) (.cons (.var 18) (.cons (.var 19) .nil)))))))))))))))))))))
   (.lt (.app 13 (.cons (.var 0) (.cons (.var 1) (.cons (.var 2) (.cons (.var 3) (.cons (.var 4) (.cons (.var 5) (.cons (.var 6) (.cons (.var 7) (.cons (.var 8) (.cons (.var 9) (.cons (.var 10) (.cons (.var 11) (.cons (.var 12) (.cons (.var 13) (.cons (.var 14) (.cons (.var 15) (.cons (.var 16) (.cons (.var 17) (.cons (.var 18) (.cons (.var 19) .nil)))))))))))))))))))) 0) 2
   (.ite (.un .not (.bin .eq (.var 26) (.n 0)))
    (.need (.ite (.bin .eq (.var 28) (.var 26)) (.bin .eq (.un .len (.var 27)) (.n 0)) (.t false)) (.pre 9 .nil)
    (.lt (.app 9 .nil 0) 1
    (.ret (.cons (.ite (.ite (.bin .eq (.var 28) (.var 26)) (.bin .eq (.un .len (.var 27)) (.n 0)) (.t false)) (.var 29) (.t false)) .nil))))
    (.ite (.un .not (.bin .eq (.var 28) (.n 0)))
     (.need (.ite (.ite (.bin .eq (.var 28) (.n 1)) (.bin .eq (.un .len (.var 27)) (.n 0)) (.t false)) (.ite (.bin .eq (.var 5) (.n 2)) (.t true) (.bin .eq (.var 5) (.n 4))) (.t false)) (.pre 9 .nil)
     (.lt (.app 9 .nil 0) 1
     (.ret (.cons (.ite (.ite (.ite (.bin .eq (.var 28) (.n 1)) (.bin .eq (.un .len (.var 27)) (.n 0)) (.t false)) (.ite (.bin .eq (.var 5) (.n 2)) (.t true) (.bin .eq (.var 5) (.n 4))) (.t false)) (.var 29) (.t false)) .nil))))
     (.need (.t true) (.pre 16 (.cons (.var 21) (.cons (.var 22) (.cons (.var 23) (.cons (.var 24) (.cons (.var 25) (.cons (.var 27) .nil)))))))
     (.lt (.app 16 (.cons (.var 21) (.cons (.var 22) (.cons (.var 23) (.cons (.var 24) (.cons (.var 25) (.cons (.var 27) .nil)))))) 0) 7
     (.need (.ite (.bin .eq (.var 35) (.n 0)) (.bin .eq (.var 34) (.un .len (.var 27))) (.t false)) (.pre 12 (.cons (.var 29) (.cons (.var 30) (.cons (.var 31) (.cons (.var 32) (.cons (.var 33) (.cons (.var 0) (.cons (.var 1) (.cons (.var 2) (.cons (.var 3) (.cons (.var 4) .nil)))))))))))
     (.lt (.app 12 (.cons (.var 29) (.cons (.var 30) (.cons (.var 31) (.cons (.var 32) (.cons (.var 33) (.cons (.var 0) (.cons (.var 1) (.cons (.var 2) (.cons (.var 3) (.cons (.var 4) .nil)))))))))) 0) 1
     (.need (.ite (.ite (.bin .eq (.var 35) (.n 0)) (.bin .eq (.var 34) (.un .len (.var 27))) (.t false)) (.var 36) (.t false)) (.pre 9 .nil)
     (.lt (.app 9 .nil 0) 1
     (.ret (.cons (.ite (.ite (.ite (.bin .eq (.var 35) (.n 0)) (.bin .eq (.var 34) (.un .len (.var 27))) (.t false)) (.var 36) (.t false)) (.var 37) (.t false)) .nil)))))))))))))))))
theorem e5 : (fnVT Try.prog (sgOf sg5) (ltOf lt5) S5 Try.f5 c5).slim (S5.ps.map fun p => p.2.length).sum [] = vt5 := by kernel_rfl

/-! ### 17 -/
def S17 : Sig := ⟨[(true, [.str, .bool, (.sl 29 [.str, .str, (.int .i64), (.int .i64), (.int .i64), (.sl 75 [.str, (.int .i64)])]), (.sl 31 [(.int .i64), (.int .i64), (.int .i64), (.int .i64), .str, (.int .i64), (.int .i64)]), (.sl 61 [.str, (.int .i64)])]), (false, [(.sl 33 [(.int .i64), (.int .i64), .str, .str, (.int .i64), (.int .i64), (.int .i64), (.sl 75 [.str, (.int .i64)]), (.int .i64), (.int .i64), (.int .i64), (.int .i64), .str, (.int .i64), (.int .i64)])])], [(true, [.str, .bool, (.sl 29 [.str, .str, (.int .i64), (.int .i64), (.int .i64), (.sl 75 [.str, (.int .i64)])]), (.sl 31 [(.int .i64), (.int .i64), (.int .i64), (.int .i64), .str, (.int .i64), (.int .i64)]), (.sl 61 [.str, (.int .i64)])]), (false, [(.int .i64)]), (false, [(.int .i64)])], [], none⟩
noncomputable def c17 : Code := Try.f17.body.getD .skip
theorem b17 : Try.f17.body = some c17 := body_some (by kernel_rfl)
theorem n17 : (Try.f17.name == "runtime.NumGoroutine") = false := by kernel_rfl
def sg17 : List (FuncId × Sig) := [(28, S28), (11, S11)]
def L17_0 : LoopSig := ⟨11700, [],
   ⟨[.any, (.c (.x (.sl 33 [(.int .i64), (.int .i64), .str, .str, (.int .i64), (.int .i64), (.int .i64), (.sl 75 [.str, (.int .i64)]), (.int .i64), (.int .i64), (.int .i64), (.int .i64), .str, (.int .i64), (.int .i64)]) (.var 0))), (.c (.ptr 0 0)), .any, (.c (.ptr 1 0)), (.c (.x (.int .i64) (.var 1))), (.c (.x (.int .i64) (.var 2))), (.c (.x (.int .i64) (.var 3))), .any, .any, .any, .any, .any, .any, .any, .any, .any, .any, .any, .any, .any, .any, .any, .any, .any, .any, .any, .any, .any, .any, .any, .any, .any, .any, .any, .any, .any, .any],
    [some ⟨(.t true), (.box 26 [(.x .str (.var 4)), (.x .bool (.var 5)), (.x (.sl 29 [.str, .str, (.int .i64), (.int .i64), (.int .i64), (.sl 75 [.str, (.int .i64)])]) (.var 6)), (.x (.sl 31 [(.int .i64), (.int .i64), (.int .i64), (.int .i64), .str, (.int .i64), (.int .i64)]) (.var 7)), (.x (.sl 61 [.str, (.int .i64)]) (.var 8))] false)⟩, some ⟨(.t true), (.box 26 [(.x .str (.var 9)), (.x .bool (.var 10)), (.x (.sl 29 [.str, .str, (.int .i64), (.int .i64), (.int .i64), (.sl 75 [.str, (.int .i64)])]) (.var 11)), (.x (.sl 31 [(.int .i64), (.int .i64), (.int .i64), (.int .i64), .str, (.int .i64), (.int .i64)]) (.var 12)), (.x (.sl 61 [.str, (.int .i64)]) (.var 13))] false)⟩]⟩,
   14, [1, 2, 3, 4, 5, 6, 7, 8, 9, 10, 11, 12, 13], [14, 15, 16, 17, 21, 22, 23, 24, 25, 26, 20, 27, 28, 8, 9, 29, 30, 31, 32, 33, 5, 6, 34, 18, 19, 7], [.ret, (.exit 0)], []⟩
def lt17 : List (Nat × LoopSig) := [(4, L17_0)]
theorem k17 : (Code.loops c17).length = 1 := by kernel_rfl
noncomputable def lb17_0 : Code := (Code.loops c17).getD 0 .skip
def rt17_0 : VT :=
  (.ite (.bin .lt (.var 3) (.un .len (.var 0)))
   (.need (.t true) (.c (.bin .le (.n 0) (.var 3)))
   (.need (.t true) (.pre 11 (.cons (.var 4) (.cons (.var 5) (.cons (.var 6) (.cons (.var 7) (.cons (.var 8) (.cons (.sel 0 (.var 0) (.var 3)) (.cons (.sel 1 (.var 0) (.var 3)) (.cons (.sel 2 (.var 0) (.var 3)) (.cons (.sel 3 (.var 0) (.var 3)) (.cons (.sel 4 (.var 0) (.var 3)) (.cons (.sel 5 (.var 0) (.var 3)) (.cons (.sel 6 (.var 0) (.var 3)) (.cons (.sel 7 (.var 0) (.var 3)) (.cons (.sel 8 (.var 0) (.var 3)) (.cons (.sel 9 (.var 0) (.var 3)) (.cons (.sel 10 (.var 0) (.var 3)) (.cons (.sel 11 (.var 0) (.var 3)) (.cons (.sel 12 (.var 0) (.var 3)) (.cons (.sel 13 (.var 0) (.var 3)) (.cons (.sel 14 (.var 0) (.var 3)) .nil)))))))))))))))))))))
   (.lt (.app 11 (.cons (.var 4) (.cons (.var 5) (.cons (.var 6) (.cons (.var 7) (.cons (.var 8) (.cons (.sel 0 (.var 0) (.var 3)) (.cons (.sel 1 (.var 0) (.var 3)) (.cons (.sel 2 (.var 0) (.var 3)) (.cons (.sel 3 (.var 0) (.var 3)) (.cons (.sel 4 (.var 0) (.var 3)) (.cons (.sel 5 (.var 0) (.var 3)) (.cons (.sel 6 (.var 0) (.var 3)) (.cons (.sel 7 (.var 0) (.var 3)) (.cons (.sel 8 (.var 0) (.var 3)) (.cons (.sel 9 (.var 0) (.var 3)) (.cons (.sel 10 (.var 0) (.var 3)) (.cons (.sel 11 (.var 0) (.var 3)) (.cons (.sel 12 (.var 0) (.var 3)) (.cons (.sel 13 (.var 0) (.var 3)) (.cons (.sel 14 (.var 0) (.var 3)) .nil)))))))))))))))))))) 0) 6
   (.ite (.un .not (.bin .eq (.var 19) (.n 0)))
    (.ret (.cons (.n 0) (.cons (.var 3) (.cons (.var 19) (.cons (.var 3) (.cons (.var 4) (.cons (.var 5) (.cons (.var 6) (.cons (.var 7) (.cons (.var 8) (.cons (.str ⟨#[]⟩) (.cons (.t false) (.cons .lnil (.cons .lnil (.cons .lnil .nil)))))))))))))))
    (.ret (.cons (.n (-1)) (.cons (.var 1) (.cons (.var 2) (.cons (.bin (.add .i64) (.var 3) (.n 1)) (.cons (.var 14) (.cons (.var 15) (.cons (.var 16) (.cons (.var 17) (.cons (.var 18) (.cons (.var 9) (.cons (.var 10) (.cons (.var 11) (.cons (.var 12) (.cons (.var 13) .nil)))))))))))))))))))
   (.ret (.cons (.n 1) (.cons (.var 1) (.cons (.var 2) (.cons (.var 3) (.cons (.var 4) (.cons (.var 5) (.cons (.var 6) (.cons (.var 7) (.cons (.var 8) (.cons (.var 9) (.cons (.var 10) (.cons (.var 11) (.cons (.var 12) (.cons (.var 13) .nil))))))))))))))))
theorem le17_0 : (loopVT Try.prog (sgOf sg17) (ltOf lt17) L17_0 lb17_0).slim L17_0.nv [] = rt17_0 := by kernel_rfl
theorem lf17_0 : (firstRegion lb17_0).bind (ltOf lt17) = some L17_0 := by kernel_rfl
theorem lk17_0 : (Code.loops lb17_0).length = 0 := by kernel_rfl
def vt17 : VT :=
  (.need (.t true) (.pre 28 (.cons (.var 0) (.cons (.var 1) (.cons (.var 2) (.cons (.var 3) (.cons (.var 4) .nil))))))
  (.lt (.app 28 (.cons (.var 0) (.cons (.var 1) (.cons (.var 2) (.cons (.var 3) (.cons (.var 4) .nil))))) 0) 1
  (.ite (.un .not (.bin .eq (.var 6) (.n 0)))
   (.ret (.cons (.str ⟨#[]⟩) (.cons (.t false) (.cons .lnil (.cons .lnil (.cons .lnil (.cons (.n 0) (.cons (.n 1) .nil))))))))
   (.need (.t true) (.pre 11700 (.cons (.var 5) (.cons (.n 0) (.cons (.n 0) (.cons (.n 0) (.cons (.var 0) (.cons (.var 1) (.cons (.var 2) (.cons (.var 3) (.cons (.var 4) (.cons (.str ⟨#[]⟩) (.cons (.t false) (.cons .lnil (.cons .lnil (.cons .lnil .nil)))))))))))))))
   (.lt (.app 11700 (.cons (.var 5) (.cons (.n 0) (.cons (.n 0) (.cons (.n 0) (.cons (.var 0) (.cons (.var 1) (.cons (.var 2) (.cons (.var 3) (.cons (.var 4) (.cons (.str ⟨#[]⟩) (.cons (.t false) (.cons .lnil (.cons .lnil (.cons .lnil .nil)))))))))))))) 0) 14
   (.ite (.bin .eq (.var 7) (.n 0))
    (.ret (.cons (.var 16) (.cons (.var 17) (.cons (.var 18) (.cons (.var 19) (.cons (.var 20) (.cons (.var 8) (.cons (.var 9) .nil))))))))
    (.ret (.cons (.var 11) (.cons (.var 12) (.cons (.var 13) (.cons (.var 14) (.cons (.var 15) (.cons (.un .len (.var 5)) (.cons (.n 0) .nil))))))))))))))
theorem e17 : (fnVT Try.prog (sgOf sg17) (ltOf lt17) S17 Try.f17 c17).slim (S17.ps.map fun p => p.2.length).sum [] = vt17 := by kernel_rfl

/-! ### 6 -/
def S6 : Sig := ⟨[(true, [.str, .bool, (.sl 29 [.str, .str, (.int .i64), (.int .i64), (.int .i64), (.sl 75 [.str, (.int .i64)])]), (.sl 31 [(.int .i64), (.int .i64), (.int .i64), (.int .i64), .str, (.int .i64), (.int .i64)]), (.sl 61 [.str, (.int .i64)])]), (false, [(.sl 33 [(.int .i64), (.int .i64), .str, .str, (.int .i64), (.int .i64), (.int .i64), (.sl 75 [.str, (.int .i64)]), (.int .i64), (.int .i64), (.int .i64), (.int .i64), .str, (.int .i64), (.int .i64)])])], [(false, [.bool])], [], none⟩
noncomputable def c6 : Code := Try.f6.body.getD .skip
theorem b6 : Try.f6.body = some c6 := body_some (by kernel_rfl)
theorem n6 : (Try.f6.name == "runtime.NumGoroutine") = false := by kernel_rfl
def sg6 : List (FuncId × Sig) := [(8, S8), (9, S9), (16, S16), (17, S17), (12, S12)]
def lt6 : List (Nat × LoopSig) := []
theorem k6 : (Code.loops c6).length = 0 := by kernel_rfl
def vt6 : VT :=
  (.need (.t true) (.pre 8 (.cons (.var 0) (.cons (.var 1) (.cons (.var 2) (.cons (.var 3) (.cons (.var 4) (.cons (.var 5) .nil)))))))
  (.lt (.app 8 (.cons (.var 0) (.cons (.var 1) (.cons (.var 2) (.cons (.var 3) (.cons (.var 4) (.cons (.var 5) .nil)))))) 0) 1
  (.ite (.un .not (.var 6))
   (.need (.t true) (.pre 9 .nil)
   (.lt (.app 9 .nil 0) 1
   (.ret (.cons (.var 7) .nil))))
   (.need (.t true) (.pre 16 (.cons (.var 0) (.cons (.var 1) (.cons (.var 2) (.cons (.var 3) (.cons (.var 4) (.cons (.var 5) .nil)))))))
   (.lt (.app 16 (.cons (.var 0) (.cons (.var 1) (.cons (.var 2) (.cons (.var 3) (.cons (.var 4) (.cons (.var 5) .nil)))))) 0) 7
   (.need (.t true) (.pre 17 (.cons (.var 0) (.cons (.var 1) (.cons (.var 2) (.cons (.var 3) (.cons (.var 4) (.cons (.var 5) .nil)))))))
   (.lt (.app 17 (.cons (.var 0) (.cons (.var 1) (.cons (.var 2) (.cons (.var 3) (.cons (.var 4) (.cons (.var 5) .nil)))))) 0) 7
   (.need (.t true) (.pre 12 (.cons (.var 7) (.cons (.var 8) (.cons (.var 9) (.cons (.var 10) (.cons (.var 11) (.cons (.var 14) (.cons (.var 15) (.cons (.var 16) (.cons (.var 17) (.cons (.var 18) .nil)))))))))))
   (.lt (.app 12 (.cons (.var 7) (.cons (.var 8) (.cons (.var 9) (.cons (.var 10) (.cons (.var 11) (.cons (.var 14) (.cons (.var 15) (.cons (.var 16) (.cons (.var 17) (.cons (.var 18) .nil)))))))))) 0) 1
   (.need (.ite (.ite (.var 21) (.bin .eq (.var 12) (.var 19)) (.t false)) (.bin .eq (.var 13) (.var 20)) (.t false)) (.pre 9 .nil)
   (.lt (.app 9 .nil 0) 1
   (.ret (.cons (.ite (.ite (.ite (.var 21) (.bin .eq (.var 12) (.var 19)) (.t false)) (.bin .eq (.var 13) (.var 20)) (.t false)) (.var 22) (.t false)) .nil)))))))))))))
theorem e6 : (fnVT Try.prog (sgOf sg6) (ltOf lt6) S6 Try.f6 c6).slim (S6.ps.map fun p => p.2.length).sum [] = vt6 := by kernel_rfl

/-! ### 36 -/
def S36 : Sig := ⟨[(false, [(.osl 3 [(.int .i64)])]), (false, [(.int .i64)]), (false, [(.int .i64)])], [(false, [(.sl 3 [(.int .i64)])])], [], none⟩
noncomputable def c36 : Code := Try.f36.body.getD .skip
theorem b36 : Try.f36.body = some c36 := body_some (by kernel_rfl)
theorem n36 : (Try.f36.name == "runtime.NumGoroutine") = false := by kernel_rfl
/-! ### 18 -/
def S18 : Sig := ⟨[(true, [.str, .bool, (.sl 29 [.str, .str, (.int .i64), (.int .i64), (.int .i64), (.sl 75 [.str, (.int .i64)])]), (.sl 31 [(.int .i64), (.int .i64), (.int .i64), (.int .i64), .str, (.int .i64), (.int .i64)]), (.sl 61 [.str, (.int .i64)])]), (false, [(.sl 33 [(.int .i64), (.int .i64), .str, .str, (.int .i64), (.int .i64), (.int .i64), (.sl 75 [.str, (.int .i64)]), (.int .i64), (.int .i64), (.int .i64), (.int .i64), .str, (.int .i64), (.int .i64)])])], [(false, [(.sl 3 [(.int .i64)])]), (false, [(.int .i64)])], [], none⟩
noncomputable def c18 : Code := Try.f18.body.getD .skip
theorem b18 : Try.f18.body = some c18 := body_some (by kernel_rfl)
theorem n18 : (Try.f18.name == "runtime.NumGoroutine") = false := by kernel_rfl
def sg18 : List (FuncId × Sig) := [(16, S16), (36, S36)]
def L18_0 : LoopSig := ⟨11800, [(9, none, 3)],
   ⟨[.any, .any, .any, .any, .any, .any, .any, .any, .any, (.c (.row 2 1)), .any, .any, .any, .any, .any, .any, .any, .any, .any, .any, .any, .any, .any, .any, .any, (.c (.x (.int .i64) (.var 0))), (.c (.x (.int .i64) (.var 1))), .any, .any, .any, .any, .any, .any, .any, .any, .any, .any, .any, .any, .any, .any, .any, .any, .any, .any, .any, .any, .any, .any, .any, .any, .any, .any, .any, .any, .any, .any, .any],
    [none, none, some ⟨(.t true), (.row 3 [(.int .i64)] (.var 2) 1 false)⟩]⟩,
   3, [1, 2], [27, 28, 10, 29, 30, 31, 32, 9, 33, 26], [(.exit 0)], [2]⟩
def L18_1 : LoopSig := ⟨11801, [],
   ⟨[.any, .any, .any, .any, .any, .any, .any, .any, .any, (.c (.row 2 1)), .any, .any, .any, .any, .any, .any, .any, .any, .any, .any, .any, .any, .any, .any, .any, .any, .any, .any, .any, .any, .any, .any, .any, .any, (.c (.x (.sl 33 [(.int .i64), (.int .i64), .str, .str, (.int .i64), (.int .i64), (.int .i64), (.sl 75 [.str, (.int .i64)]), (.int .i64), (.int .i64), (.int .i64), (.int .i64), .str, (.int .i64), (.int .i64)]) (.var 0))), (.c (.x (.int .i64) (.var 1))), (.c (.x (.int .i64) (.var 2))), .any, .any, .any, .any, .any, .any, .any, .any, .any, .any, .any, .any, .any, .any, .any, .any, .any, .any, .any, .any, .any],
    [none, none, some ⟨(.t true), (.row 3 [(.int .i64)] (.var 3) 1 false)⟩]⟩,
   4, [2, 3], [37, 38, 39, 12, 40, 41, 43, 42, 44, 45, 46, 9, 48, 47, 49, 50, 51, 52, 53, 54, 55, 56, 36], [(.exit 2)], [3]⟩
def lt18 : List (Nat × LoopSig) := [(6, L18_0), (11, L18_1)]
theorem k18 : (Code.loops c18).length = 2 := by kernel_rfl
noncomputable def lb18_0 : Code := (Code.loops c18).getD 0 .skip
noncomputable def lb18_1 : Code := (Code.loops c18).getD 1 .skip
def rt18_0 : VT :=
  (.ite (.bin .lt (.var 1) (.var 0))
   (.need (.t true) (.c (.bin .le (.un .len (.bin .cat (.var 2) (.lcons (.cons (.var 1) .nil) .lnil))) (.n 17592186044416)))
   (.ret (.cons (.n (-1)) (.cons (.bin (.add .i64) (.var 1) (.n 1)) (.cons (.bin .cat (.var 2) (.lcons (.cons (.var 1) .nil) .lnil)) .nil)))))
   (.ret (.cons (.n 0) (.cons (.var 1) (.cons (.var 2) .nil)))))
theorem le18_0 : (loopVT Try.prog (sgOf sg18) (ltOf lt18) L18_0 lb18_0).slim L18_0.nv [] = rt18_0 := by kernel_rfl
theorem lf18_0 : (firstRegion lb18_0).bind (ltOf lt18) = some L18_0 := by kernel_rfl
theorem lk18_0 : (Code.loops lb18_0).length = 0 := by kernel_rfl
def rt18_1 : VT :=
  (.ite (.bin .lt (.var 2) (.var 1))
   (.need (.t true) (.c (.bin .le (.n 0) (.var 2)))
   (.need (.t true) (.c (.bin .lt (.var 2) (.un .len (.var 0))))
   (.ite (.bin .eq (.sel 0 (.var 0) (.var 2)) (.n 1))
    (.need (.t true) (.c (.bin .le (.un .len (.bin .cat (.var 3) (.lcons (.cons (.n (-1)) .nil) .lnil))) (.n 17592186044416)))
    (.ret (.cons (.n (-1)) (.cons (.bin (.add .i64) (.var 2) (.n 1)) (.cons (.bin .cat (.var 3) (.lcons (.cons (.n (-1)) .nil) .lnil)) .nil)))))
    (.ite (.bin .eq (.sel 0 (.var 0) (.var 2)) (.n 2))
     (.need (.t true) (.pre 36 (.cons (.var 3) (.cons (.sel 1 (.var 0) (.var 2)) (.cons (.bin (.add .i64) (.sel 1 (.var 0) (.var 2)) (.n 1)) .nil))))
     (.lt (.app 36 (.cons (.var 3) (.cons (.sel 1 (.var 0) (.var 2)) (.cons (.bin (.add .i64) (.sel 1 (.var 0) (.var 2)) (.n 1)) .nil))) 0) 1
     (.ret (.cons (.n (-1)) (.cons (.bin (.add .i64) (.var 2) (.n 1)) (.cons (.var 4) .nil))))))
     (.ret (.cons (.n (-1)) (.cons (.bin (.add .i64) (.var 2) (.n 1)) (.cons (.var 3) .nil))))))))
   (.ret (.cons (.n 0) (.cons (.var 2) (.cons (.var 3) .nil)))))
theorem le18_1 : (loopVT Try.prog (sgOf sg18) (ltOf lt18) L18_1 lb18_1).slim L18_1.nv [] = rt18_1 := by kernel_rfl
theorem lf18_1 : (firstRegion lb18_1).bind (ltOf lt18) = some L18_1 := by kernel_rfl
theorem lk18_1 : (Code.loops lb18_1).length = 0 := by kernel_rfl
def vt18 : VT :=
  (.need (.t true) (.pre 16 (.cons (.var 0) (.cons (.var 1) (.cons (.var 2) (.cons (.var 3) (.cons (.var 4) (.cons (.var 5) .nil)))))))
  (.lt (.app 16 (.cons (.var 0) (.cons (.var 1) (.cons (.var 2) (.cons (.var 3) (.cons (.var 4) (.cons (.var 5) .nil)))))) 0) 7
  (.ite (.un .not (.bin .eq (.var 12) (.n 0)))
   (.ret (.cons .lnil (.cons (.var 12) .nil)))
   (.need (.t true) (.pre 11800 (.cons (.un .len (.var 2)) (.cons (.n 0) (.cons .lnil .nil))))
   (.lt (.app 11800 (.cons (.un .len (.var 2)) (.cons (.n 0) (.cons .lnil .nil))) 0) 3
   (.need (.t true) (.pre 11801 (.cons (.var 5) (.cons (.un .len (.var 5)) (.cons (.n 0) (.cons (.var 15) .nil)))))
   (.lt (.app 11801 (.cons (.var 5) (.cons (.un .len (.var 5)) (.cons (.n 0) (.cons (.var 15) .nil)))) 0) 3
   (.ret (.cons (.var 18) (.cons (.n 0) .nil))))))))))
theorem e18 : (fnVT Try.prog (sgOf sg18) (ltOf lt18) S18 Try.f18 c18).slim (S18.ps.map fun p => p.2.length).sum [] = vt18 := by kernel_rfl

/-! ### 19 -/
def S19 : Sig := ⟨[(true, [.str, .bool, (.sl 29 [.str, .str, (.int .i64), (.int .i64), (.int .i64), (.sl 75 [.str, (.int .i64)])]), (.sl 31 [(.int .i64), (.int .i64), (.int .i64), (.int .i64), .str, (.int .i64), (.int .i64)]), (.sl 61 [.str, (.int .i64)])]), (false, [(.sl 33 [(.int .i64), (.int .i64), .str, .str, (.int .i64), (.int .i64), (.int .i64), (.sl 75 [.str, (.int .i64)]), (.int .i64), (.int .i64), (.int .i64), (.int .i64), .str, (.int .i64), (.int .i64)])])], [(false, [(.sl 3 [(.int .i64)])]), (false, [(.int .i64)])], [], none⟩
noncomputable def c19 : Code := Try.f19.body.getD .skip
theorem b19 : Try.f19.body = some c19 := body_some (by kernel_rfl)
theorem n19 : (Try.f19.name == "runtime.NumGoroutine") = false := by kernel_rfl
def sg19 : List (FuncId × Sig) := [(17, S17)]
def L19_0 : LoopSig := ⟨11900, [(9, none, 3)],
   ⟨[.any, .any, (.c (.ptr 0 0)), .any, .any, .any, .any, .any, .any, (.c (.row 2 1)), (.c (.x (.int .i64) (.var 0))), .any, .any, .any, .any, .any, .any, .any, .any, .any, .any, .any, .any, .any, .any, .any, .any, .any, .any, .any, .any, .any, .any, .any, .any, .any, .any, .any, .any, .any, .any, .any, .any, .any, .any, .any, .any, .any, .any, .any, .any, .any, .any, .any, .any, .any, .any, .any, .any, .any, .any, .any, .any, .any, .any, .any, .any, .any, .any, .any],
    [some ⟨(.t true), (.box 26 [(.x .str (.var 1)), (.x .bool (.var 2)), (.x (.sl 29 [.str, .str, (.int .i64), (.int .i64), (.int .i64), (.sl 75 [.str, (.int .i64)])]) (.var 3)), (.x (.sl 31 [(.int .i64), (.int .i64), (.int .i64), (.int .i64), .str, (.int .i64), (.int .i64)]) (.var 4)), (.x (.sl 61 [.str, (.int .i64)]) (.var 5))] false)⟩, none, some ⟨(.t true), (.row 3 [(.int .i64)] (.var 6) 1 false)⟩]⟩,
   7, [0, 6], [22, 23, 24, 25, 26, 29, 30, 31, 32, 9, 27, 28, 10], [(.exit 0)], [6]⟩
def L19_1 : LoopSig := ⟨11901, [],
   ⟨[.any, (.c (.x (.sl 33 [(.int .i64), (.int .i64), .str, .str, (.int .i64), (.int .i64), (.int .i64), (.sl 75 [.str, (.int .i64)]), (.int .i64), (.int .i64), (.int .i64), (.int .i64), .str, (.int .i64), (.int .i64)]) (.var 0))), .any, .any, .any, .any, .any, .any, .any, (.c (.row 2 1)), .any, (.c (.x (.int .i64) (.var 1))), .any, .any, .any, .any, .any, .any, .any, .any, .any, .any, .any, .any, .any, .any, .any, .any, .any, .any, .any, .any, .any, .any, .any, .any, .any, .any, .any, .any, .any, .any, .any, .any, .any, .any, .any, .any, .any, .any, .any, .any, .any, .any, .any, .any, .any, .any, .any, .any, .any, .any, .any, .any, .any, .any, .any, .any, .any, .any],
    [none, none, some ⟨(.t true), (.row 3 [(.int .i64)] (.var 2) 1 false)⟩]⟩,
   3, [1, 2], [33, 34, 35, 36, 39, 40, 41, 42, 43, 45, 44, 46, 47, 48, 9, 50, 49, 51, 52, 53, 54, 55, 56, 57, 58, 59, 60, 61, 62, 63, 64, 65, 66, 67, 68, 37, 38, 11], [(.exit 2)], [2]⟩
def lt19 : List (Nat × LoopSig) := [(6, L19_0), (10, L19_1)]
theorem k19 : (Code.loops c19).length = 2 := by kernel_rfl
noncomputable def lb19_0 : Code := (Code.loops c19).getD 0 .skip
noncomputable def lb19_1 : Code := (Code.loops c19).getD 1 .skip
def rt19_0 : VT :=
  (.ite (.bin .lt (.var 0) (.un .len (.var 3)))
   (.need (.t true) (.c (.bin .le (.un .len (.bin .cat (.var 6) (.lcons (.cons (.var 0) .nil) .lnil))) (.n 17592186044416)))
   (.ret (.cons (.n (-1)) (.cons (.bin (.add .i64) (.var 0) (.n 1)) (.cons (.bin .cat (.var 6) (.lcons (.cons (.var 0) .nil) .lnil)) .nil)))))
   (.ret (.cons (.n 0) (.cons (.var 0) (.cons (.var 6) .nil)))))
theorem le19_0 : (loopVT Try.prog (sgOf sg19) (ltOf lt19) L19_0 lb19_0).slim L19_0.nv [] = rt19_0 := by kernel_rfl
theorem lf19_0 : (firstRegion lb19_0).bind (ltOf lt19) = some L19_0 := by kernel_rfl
theorem lk19_0 : (Code.loops lb19_0).length = 0 := by kernel_rfl
def rt19_1 : VT :=
  (.ite (.bin .lt (.var 1) (.un .len (.var 0)))
   (.need (.t true) (.c (.bin .le (.n 0) (.var 1)))
   (.ite (.bin .eq (.sel 0 (.var 0) (.var 1)) (.n 1))
    (.need (.t true) (.c (.bin .le (.un .len (.bin .cat (.var 2) (.lcons (.cons (.n (-1)) .nil) .lnil))) (.n 17592186044416)))
    (.ret (.cons (.n (-1)) (.cons (.bin (.add .i64) (.var 1) (.n 1)) (.cons (.bin .cat (.var 2) (.lcons (.cons (.n (-1)) .nil) .lnil)) .nil)))))
    (.ite (.bin .eq (.sel 0 (.var 0) (.var 1)) (.n 2))
     (.need (.t true) (.c (.bin .le (.n 0) (.sel 1 (.var 0) (.var 1))))
     (.need (.t true) (.c (.bin .le (.sel 1 (.var 0) (.var 1)) (.un .len (.var 2))))
     (.need (.t true) (.c (.bin .le (.un .len (.bin .cat .lnil (.sub (.var 2) (.n 0) (.sel 1 (.var 0) (.var 1))))) (.n 17592186044416)))
     (.need (.t true) (.c (.bin .le (.n 0) (.bin (.add .i64) (.sel 1 (.var 0) (.var 1)) (.n 1))))
     (.need (.t true) (.c (.bin .le (.bin (.add .i64) (.sel 1 (.var 0) (.var 1)) (.n 1)) (.un .len (.var 2))))
     (.need (.t true) (.c (.bin .le (.un .len (.var 2)) (.un .len (.var 2))))
     (.need (.t true) (.c (.bin .le (.un .len (.bin .cat (.bin .cat .lnil (.sub (.var 2) (.n 0) (.sel 1 (.var 0) (.var 1)))) (.sub (.var 2) (.bin (.add .i64) (.sel 1 (.var 0) (.var 1)) (.n 1)) (.un .len (.var 2))))) (.n 17592186044416)))
     (.ret (.cons (.n (-1)) (.cons (.bin (.add .i64) (.var 1) (.n 1)) (.cons (.bin .cat (.bin .cat .lnil (.sub (.var 2) (.n 0) (.sel 1 (.var 0) (.var 1)))) (.sub (.var 2) (.bin (.add .i64) (.sel 1 (.var 0) (.var 1)) (.n 1)) (.un .len (.var 2)))) .nil)))))))))))
     (.ret (.cons (.n (-1)) (.cons (.bin (.add .i64) (.var 1) (.n 1)) (.cons (.var 2) .nil)))))))
   (.ret (.cons (.n 0) (.cons (.var 1) (.cons (.var 2) .nil)))))
theorem le19_1 : (loopVT Try.prog (sgOf sg19) (ltOf lt19) L19_1 lb19_1).slim L19_1.nv [] = rt19_1 := by kernel_rfl
theorem lf19_1 : (firstRegion lb19_1).bind (ltOf lt19) = some L19_1 := by kernel_rfl
theorem lk19_1 : (Code.loops lb19_1).length = 0 := by kernel_rfl
def vt19 : VT :=
  (.need (.t true) (.pre 17 (.cons (.var 0) (.cons (.var 1) (.cons (.var 2) (.cons (.var 3) (.cons (.var 4) (.cons (.var 5) .nil)))))))
  (.lt (.app 17 (.cons (.var 0) (.cons (.var 1) (.cons (.var 2) (.cons (.var 3) (.cons (.var 4) (.cons (.var 5) .nil)))))) 0) 7
  (.ite (.un .not (.bin .eq (.var 12) (.n 0)))
   (.ret (.cons .lnil (.cons (.var 12) .nil)))
   (.need (.t true) (.pre 11900 (.cons (.n 0) (.cons (.var 0) (.cons (.var 1) (.cons (.var 2) (.cons (.var 3) (.cons (.var 4) (.cons .lnil .nil))))))))
   (.lt (.app 11900 (.cons (.n 0) (.cons (.var 0) (.cons (.var 1) (.cons (.var 2) (.cons (.var 3) (.cons (.var 4) (.cons .lnil .nil))))))) 0) 3
   (.need (.t true) (.pre 11901 (.cons (.var 5) (.cons (.n 0) (.cons (.var 15) .nil))))
   (.lt (.app 11901 (.cons (.var 5) (.cons (.n 0) (.cons (.var 15) .nil))) 0) 3
   (.ret (.cons (.var 18) (.cons (.n 0) .nil))))))))))
theorem e19 : (fnVT Try.prog (sgOf sg19) (ltOf lt19) S19 Try.f19 c19).slim (S19.ps.map fun p => p.2.length).sum [] = vt19 := by kernel_rfl

/-! ### 20 -/
def S20 : Sig := ⟨[(false, [(.sl 3 [(.int .i64)])]), (false, [(.sl 3 [(.int .i64)])])], [(false, [.bool])], [], none⟩
noncomputable def c20 : Code := Try.f20.body.getD .skip
theorem b20 : Try.f20.body = some c20 := body_some (by kernel_rfl)
theorem n20 : (Try.f20.name == "runtime.NumGoroutine") = false := by kernel_rfl
def sg20 : List (FuncId × Sig) := []
def L20_0 : LoopSig := ⟨12000, [],
   ⟨[(.c (.x (.sl 3 [(.int .i64)]) (.var 0))), (.c (.x (.sl 3 [(.int .i64)]) (.var 1))), .any, .any, (.c (.x .bool (.var 2))), (.c (.x (.int .i64) (.var 3))), .any, .any, .any, .any, .any, .any, .any, .any, .any, .any, .any, .any, .any, .any, .any, .any, .any, .any, .any, .any],
    []⟩,
   4, [2, 3], [11, 12, 13, 14, 17, 18, 19, 20, 21, 22, 23, 24, 25, 4, 15, 16, 5], [.ret, (.exit 0)], []⟩
def lt20 : List (Nat × LoopSig) := [(4, L20_0)]
theorem k20 : (Code.loops c20).length = 1 := by kernel_rfl
noncomputable def lb20_0 : Code := (Code.loops c20).getD 0 .skip
def rt20_0 : VT :=
  (.ite (.bin .lt (.var 3) (.un .len (.var 0)))
   (.need (.t true) (.c (.bin .le (.n 0) (.var 3)))
   (.need (.t true) (.c (.bin .lt (.var 3) (.un .len (.var 1))))
   (.ite (.un .not (.bin .eq (.sel 0 (.var 0) (.var 3)) (.sel 0 (.var 1) (.var 3))))
    (.ret (.cons (.n 0) (.cons (.t false) (.cons (.var 3) .nil))))
    (.ret (.cons (.n (-1)) (.cons (.var 2) (.cons (.bin (.add .i64) (.var 3) (.n 1)) .nil)))))))
   (.ret (.cons (.n 1) (.cons (.var 2) (.cons (.var 3) .nil)))))
theorem le20_0 : (loopVT Try.prog (sgOf sg20) (ltOf lt20) L20_0 lb20_0).slim L20_0.nv [] = rt20_0 := by kernel_rfl
theorem lf20_0 : (firstRegion lb20_0).bind (ltOf lt20) = some L20_0 := by kernel_rfl
theorem lk20_0 : (Code.loops lb20_0).length = 0 := by kernel_rfl
def vt20 : VT :=
  (.ite (.un .not (.bin .eq (.un .len (.var 0)) (.un .len (.var 1))))
   (.ret (.cons (.t false) .nil))
   (.need (.t true) (.pre 12000 (.cons (.var 0) (.cons (.var 1) (.cons (.t false) (.cons (.n 0) .nil)))))
   (.lt (.app 12000 (.cons (.var 0) (.cons (.var 1) (.cons (.t false) (.cons (.n 0) .nil)))) 0) 3
   (.ite (.bin .eq (.var 2) (.n 0))
    (.ret (.cons (.var 3) .nil))
    (.ret (.cons (.t true) .nil))))))
theorem e20 : (fnVT Try.prog (sgOf sg20) (ltOf lt20) S20 Try.f20 c20).slim (S20.ps.map fun p => p.2.length).sum [] = vt20 := by kernel_rfl

/-! ### 7 -/
def S7 : Sig := ⟨[(true, [.str, .bool, (.sl 29 [.str, .str, (.int .i64), (.int .i64), (.int .i64), (.sl 75 [.str, (.int .i64)])]), (.sl 31 [(.int .i64), (.int .i64), (.int .i64), (.int .i64), .str, (.int .i64), (.int .i64)]), (.sl 61 [.str, (.int .i64)])]), (false, [(.sl 33 [(.int .i64), (.int .i64), .str, .str, (.int .i64), (.int .i64), (.int .i64), (.sl 75 [.str, (.int .i64)]), (.int .i64), (.int .i64), (.int .i64), (.int .i64), .str, (.int .i64), (.int .i64)])])], [(false, [.bool])], [], none⟩
noncomputable def c7 : Code := Try.f7.body.getD .skip
theorem b7 : Try.f7.body = some c7 := body_some (by kernel_rfl)
theorem n7 : (Try.f7.name == "runtime.NumGoroutine") = false := by kernel_rfl
def sg7 : List (FuncId × Sig) := [(8, S8), (9, S9), (18, S18), (19, S19), (20, S20), (16, S16)]
def L7_0 : LoopSig := ⟨10700, [],
   ⟨[.any, .any, (.c (.ptr 0 0)), .any, (.c (.x .bool (.var 0))), (.c (.x (.sl 3 [(.int .i64)]) (.var 1))), .any, .any, .any, (.c (.ptr 1 0)), .any, .any, (.c (.x (.int .i64) (.var 2))), (.c (.x (.int .i64) (.var 3))), .any, .any, .any, .any, .any, .any, .any, .any, .any, .any, .any, .any, .any, .any, .any, .any, .any, .any, .any, .any, .any, .any, .any, .any, .any, .any, .any, .any, .any, .any, .any, .any, .any, .any, .any, .any, .any, .any, .any, .any, .any, .any, .any, .any, .any, .any, .any, .any, .any, .any, .any, .any, .any, .any, .any, .any, .any, .any, .any, .any, .any, .any, .any, .any, .any, .any, .any, .any, .any, .any, .any, .any, .any, .any, .any, .any, .any, .any, .any, .any, .any, .any, .any, .any, .any, .any, .any, .any, .any, .any, .any, .any, .any, .any, .any, .any, .any, .any, .any, .any, .any, .any, .any, .any, .any, .any, .any, .any, .any],
    [some ⟨(.t true), (.box 26 [(.x .str (.var 4)), (.x .bool (.var 5)), (.x (.sl 29 [.str, .str, (.int .i64), (.int .i64), (.int .i64), (.sl 75 [.str, (.int .i64)])]) (.var 6)), (.x (.sl 31 [(.int .i64), (.int .i64), (.int .i64), (.int .i64), .str, (.int .i64), (.int .i64)]) (.var 7)), (.x (.sl 61 [.str, (.int .i64)]) (.var 8))] false)⟩, some ⟨(.t true), (.box 26 [(.x .str (.var 9)), (.x .bool (.var 10)), (.x (.sl 29 [.str, .str, (.int .i64), (.int .i64), (.int .i64), (.sl 75 [.str, (.int .i64)])]) (.var 11)), (.x (.sl 31 [(.int .i64), (.int .i64), (.int .i64), (.int .i64), .str, (.int .i64), (.int .i64)]) (.var 12)), (.x (.sl 61 [.str, (.int .i64)]) (.var 13))] false)⟩]⟩,
   14, [0, 2, 3], [65, 66, 67, 68, 71, 72, 73, 74, 75, 76, 77, 78, 79, 80, 81, 82, 83, 84, 85, 86, 87, 88, 89, 90, 91, 92, 93, 94, 95, 96, 97, 98, 99, 100, 101, 102, 103, 104, 105, 106, 107, 108, 109, 110, 111, 112, 113, 114, 115, 116, 117, 4, 118, 119, 120, 121, 12, 69, 70, 13], [.ret, (.exit 0)], []⟩
def lt7 : List (Nat × LoopSig) := [(14, L7_0)]
theorem k7 : (Code.loops c7).length = 1 := by kernel_rfl
noncomputable def lb7_0 : Code := (Code.loops c7).getD 0 .skip
def rt7_0 : VT :=
  (.ite (.bin .lt (.var 3) (.un .len (.var 1)))
   (.need (.t true) (.c (.bin .le (.n 0) (.var 3)))
   (.ite (.bin .lt (.sel 0 (.var 1) (.var 3)) (.n 0))
    (.ret (.cons (.n (-1)) (.cons (.var 0) (.cons (.var 2) (.cons (.bin (.add .i64) (.var 3) (.n 1)) .nil)))))
    (.need (.un .not (.bin .le (.sel 0 (.var 1) (.var 3)) (.var 2))) (.c (.bin .lt (.var 3) (.un .len (.var 11))))
    (.need (.un .not (.bin .le (.sel 0 (.var 1) (.var 3)) (.var 2))) (.c (.bin .le (.n 0) (.sel 0 (.var 1) (.var 3))))
    (.need (.un .not (.bin .le (.sel 0 (.var 1) (.var 3)) (.var 2))) (.c (.bin .lt (.sel 0 (.var 1) (.var 3)) (.un .len (.var 6))))
    (.need (.un .not (.ite (.bin .le (.sel 0 (.var 1) (.var 3)) (.var 2)) (.t true) (.un .not (.bin .seq (.sel 0 (.var 11) (.var 3)) (.sel 0 (.var 6) (.sel 0 (.var 1) (.var 3))))))) (.c (.bin .lt (.var 3) (.un .len (.var 11))))
    (.need (.un .not (.ite (.bin .le (.sel 0 (.var 1) (.var 3)) (.var 2)) (.t true) (.un .not (.bin .seq (.sel 0 (.var 11) (.var 3)) (.sel 0 (.var 6) (.sel 0 (.var 1) (.var 3))))))) (.c (.bin .le (.n 0) (.sel 0 (.var 1) (.var 3))))
    (.need (.un .not (.ite (.bin .le (.sel 0 (.var 1) (.var 3)) (.var 2)) (.t true) (.un .not (.bin .seq (.sel 0 (.var 11) (.var 3)) (.sel 0 (.var 6) (.sel 0 (.var 1) (.var 3))))))) (.c (.bin .lt (.sel 0 (.var 1) (.var 3)) (.un .len (.var 6))))
    (.ite (.ite (.ite (.bin .le (.sel 0 (.var 1) (.var 3)) (.var 2)) (.t true) (.un .not (.bin .seq (.sel 0 (.var 11) (.var 3)) (.sel 0 (.var 6) (.sel 0 (.var 1) (.var 3)))))) (.t true) (.un .not (.bin .eq (.sel 4 (.var 11) (.var 3)) (.sel 4 (.var 6) (.sel 0 (.var 1) (.var 3))))))
     (.ret (.cons (.n 0) (.cons (.t false) (.cons (.var 2) (.cons (.var 3) .nil)))))
     (.ret (.cons (.n (-1)) (.cons (.var 0) (.cons (.sel 0 (.var 1) (.var 3)) (.cons (.bin (.add .i64) (.var 3) (.n 1)) .nil))))))))))))))
   (.ret (.cons (.n 1) (.cons (.var 0) (.cons (.var 2) (.cons (.var 3) .nil))))))
theorem le7_0 : (loopVT Try.prog (sgOf sg7) (ltOf lt7) L7_0 lb7_0).slim L7_0.nv [] = rt7_0 := by kernel_rfl
theorem lf7_0 : (firstRegion lb7_0).bind (ltOf lt7) = some L7_0 := by kernel_rfl
theorem lk7_0 : (Code.loops lb7_0).length = 0 := by kernel_rfl
def vt7 : VT :=
  (.need (.t true) (.pre 8 (.cons (.var 0) (.cons (.var 1) (.cons (.var 2) (.cons (.var 3) (.cons (.var 4) (.cons (.var 5) .nil)))))))
  (.lt (.app 8 (.cons (.var 0) (.cons (.var 1) (.cons (.var 2) (.cons (.var 3) (.cons (.var 4) (.cons (.var 5) .nil)))))) 0) 1
  (.ite (.un .not (.var 6))
   (.need (.t true) (.pre 9 .nil)
   (.lt (.app 9 .nil 0) 1
   (.ret (.cons (.var 7) .nil))))
   (.need (.t true) (.pre 18 (.cons (.var 0) (.cons (.var 1) (.cons (.var 2) (.cons (.var 3) (.cons (.var 4) (.cons (.var 5) .nil)))))))
   (.lt (.app 18 (.cons (.var 0) (.cons (.var 1) (.cons (.var 2) (.cons (.var 3) (.cons (.var 4) (.cons (.var 5) .nil)))))) 0) 2
   (.need (.t true) (.pre 19 (.cons (.var 0) (.cons (.var 1) (.cons (.var 2) (.cons (.var 3) (.cons (.var 4) (.cons (.var 5) .nil)))))))
   (.lt (.app 19 (.cons (.var 0) (.cons (.var 1) (.cons (.var 2) (.cons (.var 3) (.cons (.var 4) (.cons (.var 5) .nil)))))) 0) 2
   (.need (.t true) (.pre 20 (.cons (.var 7) (.cons (.var 9) .nil)))
   (.lt (.app 20 (.cons (.var 7) (.cons (.var 9) .nil)) 0) 1
   (.ite (.ite (.un .not (.var 11)) (.t true) (.un .not (.bin .eq (.var 8) (.var 10))))
    (.ret (.cons (.t false) .nil))
    (.need (.t true) (.pre 16 (.cons (.var 0) (.cons (.var 1) (.cons (.var 2) (.cons (.var 3) (.cons (.var 4) (.cons (.var 5) .nil)))))))
    (.lt (.app 16 (.cons (.var 0) (.cons (.var 1) (.cons (.var 2) (.cons (.var 3) (.cons (.var 4) (.cons (.var 5) .nil)))))) 0) 7
    (.ite (.un .not (.bin .eq (.var 8) (.n 0)))
     (.need (.bin .eq (.var 18) (.var 8)) (.pre 9 .nil)
     (.lt (.app 9 .nil 0) 1
     (.ret (.cons (.ite (.bin .eq (.var 18) (.var 8)) (.var 19) (.t false)) .nil))))
     (.ite (.ite (.un .not (.bin .eq (.var 18) (.n 0))) (.t true) (.un .not (.bin .eq (.un .len (.var 14)) (.un .len (.var 7)))))
      (.ret (.cons (.t false) .nil))
      (.need (.t true) (.pre 10700 (.cons (.t false) (.cons (.var 7) (.cons (.n (-1)) (.cons (.n 0) (.cons (.var 0) (.cons (.var 1) (.cons (.var 2) (.cons (.var 3) (.cons (.var 4) (.cons (.var 12) (.cons (.var 13) (.cons (.var 14) (.cons (.var 15) (.cons (.var 16) .nil)))))))))))))))
      (.lt (.app 10700 (.cons (.t false) (.cons (.var 7) (.cons (.n (-1)) (.cons (.n 0) (.cons (.var 0) (.cons (.var 1) (.cons (.var 2) (.cons (.var 3) (.cons (.var 4) (.cons (.var 12) (.cons (.var 13) (.cons (.var 14) (.cons (.var 15) (.cons (.var 16) .nil)))))))))))))) 0) 4
      (.ite (.bin .eq (.var 19) (.n 0))
       (.ret (.cons (.var 20) .nil))
       (.need (.t true) (.pre 9 .nil)
       (.lt (.app 9 .nil 0) 1
       (.ret (.cons (.var 23) .nil)))))))))))))))))))))
theorem e7 : (fnVT Try.prog (sgOf sg7) (ltOf lt7) S7 Try.f7 c7).slim (S7.ps.map fun p => p.2.length).sum [] = vt7 := by kernel_rfl

end Go.Proofs.Ythnilbkkihmpoaa.rv
