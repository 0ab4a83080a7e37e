/-
  The functions of the program as they are run: printed by program.
-/
import Derived.Test.YtnfndnaddnoiaaaRvUse
import Derived.Test.YtnfndnaddnoiaaaChecked
namespace Go.Proofs.Ytnfndnaddnoiaaa.rv
open Go.RV
set_option maxRecDepth 100000
theorem mixed : Try.prog.follows .mixedOrders = true := by kernel_rfl
/-! ### 18 -/
def S18 : Sig := ⟨[(false, [(.sl 37 [(.int .i64), (.int .i64)])]), (false, [(.int .i64)]), (false, [(.int .i64)])], [(false, [(.int .i64)])]⟩
noncomputable def c18 : Code := Try.f18.body.getD .skip
theorem b18 : Try.f18.body = some c18 := body_some (by kernel_rfl)
theorem n18 : (Try.f18.name == "runtime.NumGoroutine") = false := by kernel_rfl
def sg18 : List (FuncId × Sig) := []
def L18_0 : LoopSig := ⟨11800, [],
   ⟨[.any, .any, .any, .any, .any, .any, (.c (.x (.int .i64) (.var 0))), .any, .any, (.c (.x (.sl 37 [(.int .i64), (.int .i64)]) (.var 1))), (.c (.x (.int .i64) (.var 2))), (.c (.x (.int .i64) (.var 3))), .any, .any, .any, .any, .any, .any, .any, .any, .any, .any, .any, .any, .any, .any, .any, .any, .any, .any, .any, .any, .any, .any, .any, .any, .any, .any, .any, .any, .any, .any, .any, .any, .any, .any, .any, .any, .any],
    []⟩,
   4, [0, 3], [12, 13, 14, 8, 15, 16, 17, 18, 19, 20, 21, 22, 23, 24, 25, 26, 27, 28, 6, 29, 11], [.ret, (.exit 0)]⟩
def lt18 : List (Nat × LoopSig) := [(2, L18_0)]
theorem k18 : (Code.loops c18).length = 1 := by kernel_rfl
noncomputable def lb18_0 : Code := (Code.loops c18).getD 0 .skip
def rt18_0 : VT :=
  (.ite (.bin .lt (.var 3) (.var 2))
   (.need (.t true) (.c (.bin .le (.n 0) (.var 3)))
   (.need (.t true) (.c (.bin .lt (.var 3) (.un .len (.var 1))))
   (.ite (.ite (.bin .lt (.bin .min (.sel 0 (.var 1) (.var 3)) (.sel 1 (.var 1) (.var 3))) (.n 0)) (.t true) (.bin .lt (.n 1048576) (.bin .max (.sel 0 (.var 1) (.var 3)) (.sel 1 (.var 1) (.var 3)))))
    (.ret (.cons (.n 0) (.cons (.n 1) (.cons (.var 3) .nil))))
    (.ret (.cons (.n (-1)) (.cons (.var 0) (.cons (.bin (.add .i64) (.var 3) (.n 1)) .nil)))))))
   (.ret (.cons (.n 1) (.cons (.var 0) (.cons (.var 3) .nil)))))
theorem le18_0 : (loopVT Try.prog (sgOf sg18) (ltOf lt18) L18_0 lb18_0).slim L18_0.nv [] = rt18_0 := by kernel_rfl
theorem lf18_0 : (firstRegion lb18_0).bind (ltOf lt18) = some L18_0 := by kernel_rfl
theorem lk18_0 : (Code.loops lb18_0).length = 0 := by kernel_rfl
def vt18 : VT :=
  (.need (.t true) (.pre 11800 (.cons (.n 0) (.cons (.var 0) (.cons (.un .len (.var 0)) (.cons (.n 0) .nil)))))
  (.lt (.app 11800 (.cons (.n 0) (.cons (.var 0) (.cons (.un .len (.var 0)) (.cons (.n 0) .nil)))) 0) 3
  (.ite (.bin .eq (.var 3) (.n 0))
   (.ret (.cons (.var 4) .nil))
   (.ite (.ite (.ite (.ite (.bin .lt (.var 1) (.n 0)) (.t true) (.bin .lt (.n 268435456) (.var 1))) (.t true) (.bin .lt (.var 2) (.n 0))) (.t true) (.bin .lt (.n 1048576) (.var 2)))
    (.ret (.cons (.n 1) .nil))
    (.ite (.bin .lt (.n 64) (.un .len (.var 0)))
     (.ret (.cons (.n 2) .nil))
     (.ret (.cons (.n 0) .nil)))))))
theorem e18 : (fnVT Try.prog (sgOf sg18) (ltOf lt18) S18 Try.f18 c18).slim (S18.ps.map fun p => p.2.length).sum [] = vt18 := by kernel_rfl

/-! ### 19 -/
def S19 : Sig := ⟨[(false, [(.sl 37 [(.int .i64), (.int .i64)])]), (false, [(.int .i64)]), (false, [(.int .i64)])], [(false, [(.sl 35 [(.int .i64), (.int .i64), (.int .i64), (.int .i64)])])]⟩
noncomputable def c19 : Code := Try.f19.body.getD .skip
theorem b19 : Try.f19.body = some c19 := body_some (by kernel_rfl)
theorem n19 : (Try.f19.name == "runtime.NumGoroutine") = false := by kernel_rfl
def sg19 : List (FuncId × Sig) := []
def L19_0 : LoopSig := ⟨11900, [(7, none, 35)],
   ⟨[.any, (.c (.x (.int .i64) (.var 0))), (.c (.x (.int .i64) (.var 1))), .any, .any, .any, .any, (.c (.row 0 1)), (.c (.x (.int .i64) (.var 2))), (.c (.x (.int .i64) (.var 3))), (.c (.x (.int .i64) (.var 4))), .any, .any, (.c (.x (.sl 37 [(.int .i64), (.int .i64)]) (.var 5))), (.c (.x (.int .i64) (.var 6))), (.c (.x (.int .i64) (.var 7))), .any, .any, .any, .any, .any, .any, .any, .any, .any, .any, .any, .any, .any, .any, .any, .any, .any, .any, .any, .any, .any, .any, .any, .any, .any, .any, .any, .any, .any, .any, .any, .any, .any, .any, .any, .any, .any, .any, .any, .any, .any, .any, .any, .any, .any, .any],
    [some ⟨(.t true), (.row 35 [(.int .i64), (.int .i64), (.int .i64), (.int .i64)] (.var 8) 1 false)⟩]⟩,
   9, [2, 3, 4, 7, 8], [16, 17, 18, 19, 12, 11, 20, 21, 22, 23, 24, 25, 26, 27, 28, 29, 30, 31, 32, 8, 9, 33, 10, 34, 35, 36, 37, 38, 39, 40, 41, 42, 43, 44, 45, 46, 47, 7, 48, 49, 50, 51, 52, 53, 54, 55, 56, 57, 58, 59, 60, 15], [(.exit 0)]⟩
def lt19 : List (Nat × LoopSig) := [(4, L19_0)]
theorem k19 : (Code.loops c19).length = 1 := by kernel_rfl
noncomputable def lb19_0 : Code := (Code.loops c19).getD 0 .skip
def rt19_0 : VT :=
  (.ite (.bin .lt (.var 7) (.var 6))
   (.need (.t true) (.c (.bin .le (.n 0) (.var 7)))
   (.need (.t true) (.c (.bin .lt (.var 7) (.un .len (.var 5))))
   (.ite (.ite (.bin .lt (.n 0) (.var 7)) (.bin .lt (.var 0) (.bin (.add .i64) (.var 2) (.sel 0 (.var 5) (.var 7)))) (.t false))
    (.need (.t true) (.c (.bin .le (.un .len (.bin .cat (.var 8) (.lcons (.cons (.n 0) (.cons (.bin (.add .i64) (.var 4) (.var 1)) (.cons (.bin (.add .i64) (.n 0) (.sel 0 (.var 5) (.var 7))) (.cons (.bin (.add .i64) (.bin (.add .i64) (.var 4) (.var 1)) (.sel 1 (.var 5) (.var 7))) .nil)))) .lnil))) (.n 4398046511104)))
    (.ret (.cons (.n (-1)) (.cons (.bin (.add .i64) (.n 0) (.bin (.add .i64) (.sel 0 (.var 5) (.var 7)) (.var 1))) (.cons (.bin (.add .i64) (.var 4) (.var 1)) (.cons (.bin .max (.bin (.add .i64) (.var 4) (.var 1)) (.bin (.add .i64) (.bin (.add .i64) (.var 4) (.var 1)) (.sel 1 (.var 5) (.var 7)))) (.cons (.bin (.add .i64) (.var 7) (.n 1)) (.cons (.bin .cat (.var 8) (.lcons (.cons (.n 0) (.cons (.bin (.add .i64) (.var 4) (.var 1)) (.cons (.bin (.add .i64) (.n 0) (.sel 0 (.var 5) (.var 7))) (.cons (.bin (.add .i64) (.bin (.add .i64) (.var 4) (.var 1)) (.sel 1 (.var 5) (.var 7))) .nil)))) .lnil)) .nil))))))))
    (.need (.t true) (.c (.bin .le (.un .len (.bin .cat (.var 8) (.lcons (.cons (.var 2) (.cons (.var 3) (.cons (.bin (.add .i64) (.var 2) (.sel 0 (.var 5) (.var 7))) (.cons (.bin (.add .i64) (.var 3) (.sel 1 (.var 5) (.var 7))) .nil)))) .lnil))) (.n 4398046511104)))
    (.ret (.cons (.n (-1)) (.cons (.bin (.add .i64) (.var 2) (.bin (.add .i64) (.sel 0 (.var 5) (.var 7)) (.var 1))) (.cons (.var 3) (.cons (.bin .max (.var 4) (.bin (.add .i64) (.var 3) (.sel 1 (.var 5) (.var 7)))) (.cons (.bin (.add .i64) (.var 7) (.n 1)) (.cons (.bin .cat (.var 8) (.lcons (.cons (.var 2) (.cons (.var 3) (.cons (.bin (.add .i64) (.var 2) (.sel 0 (.var 5) (.var 7))) (.cons (.bin (.add .i64) (.var 3) (.sel 1 (.var 5) (.var 7))) .nil)))) .lnil)) .nil)))))))))))
   (.ret (.cons (.n 0) (.cons (.var 2) (.cons (.var 3) (.cons (.var 4) (.cons (.var 7) (.cons (.var 8) .nil))))))))
theorem le19_0 : (loopVT Try.prog (sgOf sg19) (ltOf lt19) L19_0 lb19_0).slim L19_0.nv [] = rt19_0 := by kernel_rfl
theorem lf19_0 : (firstRegion lb19_0).bind (ltOf lt19) = some L19_0 := by kernel_rfl
theorem lk19_0 : (Code.loops lb19_0).length = 0 := by kernel_rfl
def vt19 : VT :=
  (.need (.t true) (.pre 11900 (.cons (.var 1) (.cons (.var 2) (.cons (.n 0) (.cons (.n 0) (.cons (.n 0) (.cons (.var 0) (.cons (.un .len (.var 0)) (.cons (.n 0) (.cons .lnil .nil))))))))))
  (.lt (.app 11900 (.cons (.var 1) (.cons (.var 2) (.cons (.n 0) (.cons (.n 0) (.cons (.n 0) (.cons (.var 0) (.cons (.un .len (.var 0)) (.cons (.n 0) (.cons .lnil .nil))))))))) 0) 6
  (.ret (.cons (.var 8) .nil))))
theorem e19 : (fnVT Try.prog (sgOf sg19) (ltOf lt19) S19 Try.f19 c19).slim (S19.ps.map fun p => p.2.length).sum [] = vt19 := by kernel_rfl

/-! ### 9 -/
def S9 : Sig := ⟨[(false, [(.sl 37 [(.int .i64), (.int .i64)])]), (false, [(.int .i64)]), (false, [(.int .i64)])], [(false, [(.sl 35 [(.int .i64), (.int .i64), (.int .i64), (.int .i64)])]), (false, [(.int .i64)])]⟩
noncomputable def c9 : Code := Try.f9.body.getD .skip
theorem b9 : Try.f9.body = some c9 := body_some (by kernel_rfl)
theorem n9 : (Try.f9.name == "runtime.NumGoroutine") = false := by kernel_rfl
def sg9 : List (FuncId × Sig) := [(18, S18), (19, S19)]
def lt9 : List (Nat × LoopSig) := []
theorem k9 : (Code.loops c9).length = 0 := by kernel_rfl
def vt9 : VT :=
  (.need (.t true) (.pre 18 (.cons (.var 0) (.cons (.var 1) (.cons (.var 2) .nil))))
  (.lt (.app 18 (.cons (.var 0) (.cons (.var 1) (.cons (.var 2) .nil))) 0) 1
  (.ite (.un .not (.bin .eq (.var 3) (.n 0)))
   (.ret (.cons .lnil (.cons (.var 3) .nil)))
   (.need (.t true) (.pre 19 (.cons (.var 0) (.cons (.var 1) (.cons (.var 2) .nil))))
   (.lt (.app 19 (.cons (.var 0) (.cons (.var 1) (.cons (.var 2) .nil))) 0) 1
   (.ret (.cons (.var 4) (.cons (.n 0) .nil))))))))
theorem e9 : (fnVT Try.prog (sgOf sg9) (ltOf lt9) S9 Try.f9 c9).slim (S9.ps.map fun p => p.2.length).sum [] = vt9 := by kernel_rfl

/-! ### 25 -/
def S25 : Sig := ⟨[(false, [(.sl 35 [(.int .i64), (.int .i64), (.int .i64), (.int .i64)])])], [(false, [(.int .i64)])]⟩
noncomputable def c25 : Code := Try.f25.body.getD .skip
theorem b25 : Try.f25.body = some c25 := body_some (by kernel_rfl)
theorem n25 : (Try.f25.name == "runtime.NumGoroutine") = false := by kernel_rfl
def sg25 : List (FuncId × Sig) := []
def L25_0 : LoopSig := ⟨12500, [],
   ⟨[.any, .any, .any, (.c (.x (.int .i64) (.var 0))), .any, .any, (.c (.x (.sl 35 [(.int .i64), (.int .i64), (.int .i64), (.int .i64)]) (.var 1))), (.c (.x (.int .i64) (.var 2))), (.c (.x (.int .i64) (.var 3))), .any, .any, .any, .any, .any, .any, .any, .any, .any, .any, .any],
    []⟩,
   4, [0, 3], [9, 10, 11, 5, 12, 13, 14, 15, 16, 17, 3, 18, 8], [(.exit 0)]⟩
def lt25 : List (Nat × LoopSig) := [(3, L25_0)]
theorem k25 : (Code.loops c25).length = 1 := by kernel_rfl
noncomputable def lb25_0 : Code := (Code.loops c25).getD 0 .skip
def rt25_0 : VT :=
  (.ite (.bin .lt (.var 3) (.var 2))
   (.need (.t true) (.c (.bin .le (.n 0) (.var 3)))
   (.need (.t true) (.c (.bin .lt (.var 3) (.un .len (.var 1))))
   (.ret (.cons (.n (-1)) (.cons (.bin .max (.bin .max (.var 0) (.sel 2 (.var 1) (.var 3))) (.sel 3 (.var 1) (.var 3))) (.cons (.bin (.add .i64) (.var 3) (.n 1)) .nil))))))
   (.ret (.cons (.n 0) (.cons (.var 0) (.cons (.var 3) .nil)))))
theorem le25_0 : (loopVT Try.prog (sgOf sg25) (ltOf lt25) L25_0 lb25_0).slim L25_0.nv [] = rt25_0 := by kernel_rfl
theorem lf25_0 : (firstRegion lb25_0).bind (ltOf lt25) = some L25_0 := by kernel_rfl
theorem lk25_0 : (Code.loops lb25_0).length = 0 := by kernel_rfl
def vt25 : VT :=
  (.need (.t true) (.pre 12500 (.cons (.n 0) (.cons (.var 0) (.cons (.un .len (.var 0)) (.cons (.n 0) .nil)))))
  (.lt (.app 12500 (.cons (.n 0) (.cons (.var 0) (.cons (.un .len (.var 0)) (.cons (.n 0) .nil)))) 0) 3
  (.ret (.cons (.var 2) .nil))))
theorem e25 : (fnVT Try.prog (sgOf sg25) (ltOf lt25) S25 Try.f25 c25).slim (S25.ps.map fun p => p.2.length).sum [] = vt25 := by kernel_rfl

/-! ### 14 -/
def S14 : Sig := ⟨[(false, [(.sl 37 [(.int .i64), (.int .i64)])]), (false, [(.int .i64)])], [(false, [(.sl 35 [(.int .i64), (.int .i64), (.int .i64), (.int .i64)])]), (false, [(.int .i64)])]⟩
noncomputable def c14 : Code := Try.f14.body.getD .skip
theorem b14 : Try.f14.body = some c14 := body_some (by kernel_rfl)
theorem n14 : (Try.f14.name == "runtime.NumGoroutine") = false := by kernel_rfl
def sg14 : List (FuncId × Sig) := [(18, S18), (19, S19), (25, S25)]
def L14_0 : LoopSig := ⟨11400, [],
   ⟨[(.c (.x (.sl 37 [(.int .i64), (.int .i64)]) (.var 0))), (.c (.x (.int .i64) (.var 1))), .any, .any, .any, .any, .any, (.c (.x (.sl 35 [(.int .i64), (.int .i64), (.int .i64), (.int .i64)]) (.var 2))), (.c (.x (.int .i64) (.var 3))), .any, .any, .any, .any, .any, .any, .any, .any, .any, .any, .any, (.c (.x (.sl 37 [(.int .i64), (.int .i64)]) (.var 4))), (.c (.x (.int .i64) (.var 5))), (.c (.x (.int .i64) (.var 6))), .any, .any, .any, .any, .any, .any, .any, .any, .any, .any, .any, .any, .any, .any, .any, .any, .any, .any, .any, .any, .any, .any, .any, .any, .any, .any],
    []⟩,
   7, [2, 3, 6], [23, 24, 25, 26, 10, 9, 27, 28, 29, 30, 31, 32, 8, 33, 34, 35, 36, 11, 37, 38, 39, 40, 41, 42, 43, 44, 45, 46, 7, 47, 22], [(.exit 0)]⟩
def lt14 : List (Nat × LoopSig) := [(7, L14_0)]
theorem k14 : (Code.loops c14).length = 1 := by kernel_rfl
noncomputable def lb14_0 : Code := (Code.loops c14).getD 0 .skip
def rt14_0 : VT :=
  (.ite (.bin .lt (.var 6) (.var 5))
   (.need (.t true) (.c (.bin .le (.n 0) (.var 6)))
   (.need (.t true) (.c (.bin .lt (.var 6) (.un .len (.var 4))))
   (.need (.t true) (.pre 19 (.cons (.var 0) (.cons (.bin (.add .i64) (.var 3) (.bin (.add .i64) (.var 1) (.sel 0 (.var 4) (.var 6)))) (.cons (.var 1) .nil))))
   (.lt (.app 19 (.cons (.var 0) (.cons (.bin (.add .i64) (.var 3) (.bin (.add .i64) (.var 1) (.sel 0 (.var 4) (.var 6)))) (.cons (.var 1) .nil))) 0) 1
   (.need (.un .not (.bin .eq (.var 6) (.n 0))) (.pre 25 (.cons (.var 7) .nil))
   (.lt (.app 25 (.cons (.var 7) .nil) 0) 1
   (.need (.un .not (.bin .eq (.var 6) (.n 0))) (.pre 25 (.cons (.var 2) .nil))
   (.lt (.app 25 (.cons (.var 2) .nil) 0) 1
   (.ite (.ite (.bin .eq (.var 6) (.n 0)) (.t true) (.bin .lt (.var 8) (.var 9)))
    (.ret (.cons (.n (-1)) (.cons (.var 7) (.cons (.bin (.add .i64) (.var 3) (.bin (.add .i64) (.var 1) (.sel 0 (.var 4) (.var 6)))) (.cons (.bin (.add .i64) (.var 6) (.n 1)) .nil)))))
    (.ret (.cons (.n (-1)) (.cons (.var 2) (.cons (.bin (.add .i64) (.var 3) (.bin (.add .i64) (.var 1) (.sel 0 (.var 4) (.var 6)))) (.cons (.bin (.add .i64) (.var 6) (.n 1)) .nil))))))))))))))
   (.ret (.cons (.n 0) (.cons (.var 2) (.cons (.var 3) (.cons (.var 6) .nil))))))
theorem le14_0 : (loopVT Try.prog (sgOf sg14) (ltOf lt14) L14_0 lb14_0).slim L14_0.nv [] = rt14_0 := by kernel_rfl
theorem lf14_0 : (firstRegion lb14_0).bind (ltOf lt14) = some L14_0 := by kernel_rfl
theorem lk14_0 : (Code.loops lb14_0).length = 0 := by kernel_rfl
def vt14 : VT :=
  (.need (.t true) (.pre 18 (.cons (.var 0) (.cons (.n 0) (.cons (.var 1) .nil))))
  (.lt (.app 18 (.cons (.var 0) (.cons (.n 0) (.cons (.var 1) .nil))) 0) 1
  (.ite (.un .not (.bin .eq (.var 2) (.n 0)))
   (.ret (.cons .lnil (.cons (.var 2) .nil)))
   (.need (.t true) (.pre 11400 (.cons (.var 0) (.cons (.var 1) (.cons .lnil (.cons (.un (.neg .i64) (.var 1)) (.cons (.var 0) (.cons (.un .len (.var 0)) (.cons (.n 0) .nil))))))))
   (.lt (.app 11400 (.cons (.var 0) (.cons (.var 1) (.cons .lnil (.cons (.un (.neg .i64) (.var 1)) (.cons (.var 0) (.cons (.un .len (.var 0)) (.cons (.n 0) .nil))))))) 0) 4
   (.ret (.cons (.var 4) (.cons (.n 0) .nil))))))))
theorem e14 : (fnVT Try.prog (sgOf sg14) (ltOf lt14) S14 Try.f14 c14).slim (S14.ps.map fun p => p.2.length).sum [] = vt14 := by kernel_rfl

/-! ### 11 -/
def S11 : Sig := ⟨[(false, [(.sl 35 [(.int .i64), (.int .i64), (.int .i64), (.int .i64)])]), (false, [(.sl 35 [(.int .i64), (.int .i64), (.int .i64), (.int .i64)])])], [(false, [.bool])]⟩
noncomputable def c11 : Code := Try.f11.body.getD .skip
theorem b11 : Try.f11.body = some c11 := body_some (by kernel_rfl)
theorem n11 : (Try.f11.name == "runtime.NumGoroutine") = false := by kernel_rfl
def sg11 : List (FuncId × Sig) := []
def L11_0 : LoopSig := ⟨11100, [],
   ⟨[(.c (.x (.sl 35 [(.int .i64), (.int .i64), (.int .i64), (.int .i64)]) (.var 0))), (.c (.x (.sl 35 [(.int .i64), (.int .i64), (.int .i64), (.int .i64)]) (.var 1))), .any, .any, (.c (.x .bool (.var 2))), (.c (.x (.int .i64) (.var 3))), .any, .any, .any, .any, .any, .any, .any, .any, .any, .any, .any, .any, .any, .any, .any, .any, .any, .any, .any, .any],
    []⟩,
   4, [2, 3], [11, 12, 13, 14, 17, 18, 19, 20, 21, 22, 23, 24, 25, 4, 15, 16, 5], [.ret, (.exit 0)]⟩
def lt11 : List (Nat × LoopSig) := [(4, L11_0)]
theorem k11 : (Code.loops c11).length = 1 := by kernel_rfl
noncomputable def lb11_0 : Code := (Code.loops c11).getD 0 .skip
def rt11_0 : VT :=
  (.ite (.bin .lt (.var 3) (.un .len (.var 0)))
   (.need (.t true) (.c (.bin .le (.n 0) (.var 3)))
   (.need (.t true) (.c (.bin .lt (.var 3) (.un .len (.var 1))))
   (.ite (.un .not (.ite (.bin .eq (.sel 0 (.var 0) (.var 3)) (.sel 0 (.var 1) (.var 3))) (.ite (.bin .eq (.sel 1 (.var 0) (.var 3)) (.sel 1 (.var 1) (.var 3))) (.ite (.bin .eq (.sel 2 (.var 0) (.var 3)) (.sel 2 (.var 1) (.var 3))) (.bin .eq (.sel 3 (.var 0) (.var 3)) (.sel 3 (.var 1) (.var 3))) (.t false)) (.t false)) (.t false)))
    (.ret (.cons (.n 0) (.cons (.t false) (.cons (.var 3) .nil))))
    (.ret (.cons (.n (-1)) (.cons (.var 2) (.cons (.bin (.add .i64) (.var 3) (.n 1)) .nil)))))))
   (.ret (.cons (.n 1) (.cons (.var 2) (.cons (.var 3) .nil)))))
theorem le11_0 : (loopVT Try.prog (sgOf sg11) (ltOf lt11) L11_0 lb11_0).slim L11_0.nv [] = rt11_0 := by kernel_rfl
theorem lf11_0 : (firstRegion lb11_0).bind (ltOf lt11) = some L11_0 := by kernel_rfl
theorem lk11_0 : (Code.loops lb11_0).length = 0 := by kernel_rfl
def vt11 : VT :=
  (.ite (.un .not (.bin .eq (.un .len (.var 0)) (.un .len (.var 1))))
   (.ret (.cons (.t false) .nil))
   (.need (.t true) (.pre 11100 (.cons (.var 0) (.cons (.var 1) (.cons (.t false) (.cons (.n 0) .nil)))))
   (.lt (.app 11100 (.cons (.var 0) (.cons (.var 1) (.cons (.t false) (.cons (.n 0) .nil)))) 0) 3
   (.ite (.bin .eq (.var 2) (.n 0))
    (.ret (.cons (.var 3) .nil))
    (.ret (.cons (.t true) .nil))))))
theorem e11 : (fnVT Try.prog (sgOf sg11) (ltOf lt11) S11 Try.f11 c11).slim (S11.ps.map fun p => p.2.length).sum [] = vt11 := by kernel_rfl

/-! ### 29 -/
def S29 : Sig := ⟨[(true, [(.int .i64), (.int .i64)])], [(false, [.bool])]⟩
noncomputable def c29 : Code := Try.f29.body.getD .skip
theorem b29 : Try.f29.body = some c29 := body_some (by kernel_rfl)
theorem n29 : (Try.f29.name == "runtime.NumGoroutine") = false := by kernel_rfl
def sg29 : List (FuncId × Sig) := []
def lt29 : List (Nat × LoopSig) := []
theorem k29 : (Code.loops c29).length = 0 := by kernel_rfl
def vt29 : VT :=
  (.ret (.cons (.ite (.ite (.ite (.bin .le (.n (-268435456)) (.var 0)) (.bin .le (.var 0) (.n 268435456)) (.t false)) (.bin .le (.n (-268435456)) (.var 1)) (.t false)) (.bin .le (.var 1) (.n 268435456)) (.t false)) .nil))
theorem e29 : (fnVT Try.prog (sgOf sg29) (ltOf lt29) S29 Try.f29 c29).slim (S29.ps.map fun p => p.2.length).sum [] = vt29 := by kernel_rfl
def T29 : FuncId → List D → List D := tabOf []
def fn29 (ρ : List D) : List D := vt29.val T29 ρ
theorem m29 : Meets Try.prog 29 S29 (fun _ => True) fn29 := meets_easy (sgl := sg29) (Φ := T29) mixed ((fun _ h => nomatch h)) Try.func29 b29 n29 k29 e29 (by kernel_rfl)

/-! ### 27 -/
def S27 : Sig := ⟨[(true, [(.int .i64), (.int .i64), (.int .i64), (.int .i64)])], [(false, [.bool])]⟩
noncomputable def c27 : Code := Try.f27.body.getD .skip
theorem b27 : Try.f27.body = some c27 := body_some (by kernel_rfl)
theorem n27 : (Try.f27.name == "runtime.NumGoroutine") = false := by kernel_rfl
def sg27 : List (FuncId × Sig) := [(29, S29)]
def lt27 : List (Nat × LoopSig) := []
theorem k27 : (Code.loops c27).length = 0 := by kernel_rfl
def vt27 : VT :=
  (.need (.t true) (.pre 29 (.cons (.var 0) (.cons (.var 1) .nil)))
  (.lt (.app 29 (.cons (.var 0) (.cons (.var 1) .nil)) 0) 1
  (.need (.var 4) (.pre 29 (.cons (.var 2) (.cons (.var 3) .nil)))
  (.lt (.app 29 (.cons (.var 2) (.cons (.var 3) .nil)) 0) 1
  (.ret (.cons (.ite (.ite (.ite (.var 4) (.var 5) (.t false)) (.bin .le (.var 0) (.var 2)) (.t false)) (.bin .le (.var 1) (.var 3)) (.t false)) .nil))))))
theorem e27 : (fnVT Try.prog (sgOf sg27) (ltOf lt27) S27 Try.f27 c27).slim (S27.ps.map fun p => p.2.length).sum [] = vt27 := by kernel_rfl
def T27 : FuncId → List D → List D := tabOf [(29, fn29)]
def fn27 (ρ : List D) : List D := vt27.val T27 ρ
theorem m27 : Meets Try.prog 27 S27 (fun _ => True) fn27 := meets_easy (sgl := sg27) (Φ := T27) mixed (List.forall_mem_cons.2 ⟨m29, (fun _ h => nomatch h)⟩) Try.func27 b27 n27 k27 e27 (by kernel_rfl)

/-! ### 28 -/
def S28 : Sig := ⟨[(true, [(.int .i64), (.int .i64), (.int .i64), (.int .i64)])], [(true, [(.int .i64), (.int .i64), (.int .i64), (.int .i64)])]⟩
noncomputable def c28 : Code := Try.f28.body.getD .skip
theorem b28 : Try.f28.body = some c28 := body_some (by kernel_rfl)
theorem n28 : (Try.f28.name == "runtime.NumGoroutine") = false := by kernel_rfl
def sg28 : List (FuncId × Sig) := [(27, S27)]
def lt28 : List (Nat × LoopSig) := []
theorem k28 : (Code.loops c28).length = 0 := by kernel_rfl
def vt28 : VT :=
  (.need (.t true) (.pre 27 (.cons (.var 0) (.cons (.var 1) (.cons (.var 2) (.cons (.var 3) .nil)))))
  (.lt (.app 27 (.cons (.var 0) (.cons (.var 1) (.cons (.var 2) (.cons (.var 3) .nil)))) 0) 1
  (.ite (.un .not (.var 4))
   (.ret (.cons (.n 0) (.cons (.n 0) (.cons (.n 0) (.cons (.n 0) .nil)))))
   (.ret (.cons (.var 0) (.cons (.var 1) (.cons (.var 2) (.cons (.var 3) .nil))))))))
theorem e28 : (fnVT Try.prog (sgOf sg28) (ltOf lt28) S28 Try.f28 c28).slim (S28.ps.map fun p => p.2.length).sum [] = vt28 := by kernel_rfl
def T28 : FuncId → List D → List D := tabOf [(27, fn27)]
def fn28 (ρ : List D) : List D := vt28.val T28 ρ
theorem m28 : Meets Try.prog 28 S28 (fun _ => True) fn28 := meets_easy (sgl := sg28) (Φ := T28) mixed (List.forall_mem_cons.2 ⟨m27, (fun _ h => nomatch h)⟩) Try.func28 b28 n28 k28 e28 (by kernel_rfl)

/-! ### 21 -/
def S21 : Sig := ⟨[(true, [(.int .i64), (.int .i64), (.int .i64), (.int .i64)]), (false, [(.int .i64)])], [(true, [(.int .i64), (.int .i64), (.int .i64), (.int .i64)])]⟩
noncomputable def c21 : Code := Try.f21.body.getD .skip
theorem b21 : Try.f21.body = some c21 := body_some (by kernel_rfl)
theorem n21 : (Try.f21.name == "runtime.NumGoroutine") = false := by kernel_rfl
def sg21 : List (FuncId × Sig) := [(27, S27), (28, S28)]
def lt21 : List (Nat × LoopSig) := []
theorem k21 : (Code.loops c21).length = 0 := by kernel_rfl
def vt21 : VT :=
  (.need (.t true) (.pre 27 (.cons (.var 0) (.cons (.var 1) (.cons (.var 2) (.cons (.var 3) .nil)))))
  (.lt (.app 27 (.cons (.var 0) (.cons (.var 1) (.cons (.var 2) (.cons (.var 3) .nil)))) 0) 1
  (.ite (.ite (.ite (.un .not (.var 5)) (.t true) (.bin .lt (.n 536870912) (.var 4))) (.t true) (.bin .lt (.var 4) (.n (-536870912))))
   (.ret (.cons (.n 0) (.cons (.n 0) (.cons (.n 0) (.cons (.n 0) .nil)))))
   (.need (.t true) (.pre 28 (.cons (.bin (.sub .i64) (.var 0) (.var 4)) (.cons (.bin (.sub .i64) (.var 1) (.var 4)) (.cons (.bin (.add .i64) (.var 2) (.var 4)) (.cons (.bin (.add .i64) (.var 3) (.var 4)) .nil)))))
   (.lt (.app 28 (.cons (.bin (.sub .i64) (.var 0) (.var 4)) (.cons (.bin (.sub .i64) (.var 1) (.var 4)) (.cons (.bin (.add .i64) (.var 2) (.var 4)) (.cons (.bin (.add .i64) (.var 3) (.var 4)) .nil)))) 0) 4
   (.ret (.cons (.var 6) (.cons (.var 7) (.cons (.var 8) (.cons (.var 9) .nil))))))))))
theorem e21 : (fnVT Try.prog (sgOf sg21) (ltOf lt21) S21 Try.f21 c21).slim (S21.ps.map fun p => p.2.length).sum [] = vt21 := by kernel_rfl
def T21 : FuncId → List D → List D := tabOf [(27, fn27), (28, fn28)]
def fn21 (ρ : List D) : List D := vt21.val T21 ρ
theorem m21 : Meets Try.prog 21 S21 (fun _ => True) fn21 := meets_easy (sgl := sg21) (Φ := T21) mixed (List.forall_mem_cons.2 ⟨m27, List.forall_mem_cons.2 ⟨m28, (fun _ h => nomatch h)⟩⟩) Try.func21 b21 n21 k21 e21 (by kernel_rfl)

/-! ### 22 -/
def S22 : Sig := ⟨[(true, [(.int .i64), (.int .i64), (.int .i64), (.int .i64)]), (true, [(.int .i64), (.int .i64), (.int .i64), (.int .i64)])], [(false, [.bool])]⟩
noncomputable def c22 : Code := Try.f22.body.getD .skip
theorem b22 : Try.f22.body = some c22 := body_some (by kernel_rfl)
theorem n22 : (Try.f22.name == "runtime.NumGoroutine") = false := by kernel_rfl
def sg22 : List (FuncId × Sig) := [(27, S27)]
def lt22 : List (Nat × LoopSig) := []
theorem k22 : (Code.loops c22).length = 0 := by kernel_rfl
def vt22 : VT :=
  (.need (.t true) (.pre 27 (.cons (.var 0) (.cons (.var 1) (.cons (.var 2) (.cons (.var 3) .nil)))))
  (.lt (.app 27 (.cons (.var 0) (.cons (.var 1) (.cons (.var 2) (.cons (.var 3) .nil)))) 0) 1
  (.need (.var 8) (.pre 27 (.cons (.var 4) (.cons (.var 5) (.cons (.var 6) (.cons (.var 7) .nil)))))
  (.lt (.app 27 (.cons (.var 4) (.cons (.var 5) (.cons (.var 6) (.cons (.var 7) .nil)))) 0) 1
  (.ret (.cons (.ite (.ite (.ite (.var 8) (.var 9) (.t false)) (.bin .lt (.bin .max (.var 0) (.var 4)) (.bin .min (.var 2) (.var 6))) (.t false)) (.bin .lt (.bin .max (.var 1) (.var 5)) (.bin .min (.var 3) (.var 7))) (.t false)) .nil))))))
theorem e22 : (fnVT Try.prog (sgOf sg22) (ltOf lt22) S22 Try.f22 c22).slim (S22.ps.map fun p => p.2.length).sum [] = vt22 := by kernel_rfl
def T22 : FuncId → List D → List D := tabOf [(27, fn27)]
def fn22 (ρ : List D) : List D := vt22.val T22 ρ
theorem m22 : Meets Try.prog 22 S22 (fun _ => True) fn22 := meets_easy (sgl := sg22) (Φ := T22) mixed (List.forall_mem_cons.2 ⟨m27, (fun _ h => nomatch h)⟩) Try.func22 b22 n22 k22 e22 (by kernel_rfl)

/-! ### 12 -/
def S12 : Sig := ⟨[(false, [(.sl 35 [(.int .i64), (.int .i64), (.int .i64), (.int .i64)])]), (false, [(.int .i64)])], [(false, [.bool])]⟩
noncomputable def c12 : Code := Try.f12.body.getD .skip
theorem b12 : Try.f12.body = some c12 := body_some (by kernel_rfl)
theorem n12 : (Try.f12.name == "runtime.NumGoroutine") = false := by kernel_rfl
def sg12 : List (FuncId × Sig) := [(21, S21), (22, S22)]
def L12_0 : LoopSig := ⟨11201, [],
   ⟨[(.c (.x (.sl 35 [(.int .i64), (.int .i64), (.int .i64), (.int .i64)]) (.var 0))), (.c (.x (.int .i64) (.var 1))), .any, .any, (.c (.x .bool (.var 2))), .any, .any, .any, .any, .any, (.c (.x (.sl 35 [(.int .i64), (.int .i64), (.int .i64), (.int .i64)]) (.var 3))), (.c (.x (.int .i64) (.var 4))), (.c (.x (.int .i64) (.var 5))), .any, .any, .any, .any, .any, .any, .any, .any, .any, .any, .any, .any, .any, .any, .any, .any, .any, .any, .any, .any],
    []⟩,
   6, [2, 5], [13, 14, 15, 16, 6, 5, 17, 18, 19, 7, 20, 21, 22, 23, 24, 25, 26, 27, 9, 28, 29, 30, 4, 31, 32, 12], [.ret, (.exit 0)]⟩
def L12_1 : LoopSig := ⟨11200, [],
   ⟨[.any, .any, .any, .any, (.c (.x .bool (.var 0))), .any, .any, (.c (.ptr 1 0)), .any, .any, .any, .any, .any, .any, .any, .any, .any, .any, .any, .any, .any, .any, (.c (.x (.sl 35 [(.int .i64), (.int .i64), (.int .i64), (.int .i64)]) (.var 1))), (.c (.x (.int .i64) (.var 2))), (.c (.x (.int .i64) (.var 3))), .any, .any, .any, .any, .any, .any, .any, .any],
    [none, some ⟨(.t true), (.box 35 [(.x (.int .i64) (.var 4)), (.x (.int .i64) (.var 5)), (.x (.int .i64) (.var 6)), (.x (.int .i64) (.var 7))] false)⟩]⟩,
   8, [0, 3], [25, 26, 27, 9, 28, 29, 30, 4, 31, 24], [.ret, (.exit 2)]⟩
def lt12 : List (Nat × LoopSig) := [(2, L12_0), (6, L12_1)]
theorem k12 : (Code.loops c12).length = 2 := by kernel_rfl
noncomputable def lb12_0 : Code := (Code.loops c12).getD 0 .skip
noncomputable def lb12_1 : Code := (Code.loops c12).getD 1 .skip
def rt12_0 : VT :=
  (.ite (.bin .lt (.var 5) (.var 4))
   (.need (.t true) (.c (.bin .le (.n 0) (.var 5)))
   (.need (.t true) (.c (.bin .lt (.var 5) (.un .len (.var 3))))
   (.need (.t true) (.pre 21 (.cons (.sel 0 (.var 3) (.var 5)) (.cons (.sel 1 (.var 3) (.var 5)) (.cons (.sel 2 (.var 3) (.var 5)) (.cons (.sel 3 (.var 3) (.var 5)) (.cons (.var 1) .nil))))))
   (.lt (.app 21 (.cons (.sel 0 (.var 3) (.var 5)) (.cons (.sel 1 (.var 3) (.var 5)) (.cons (.sel 2 (.var 3) (.var 5)) (.cons (.sel 3 (.var 3) (.var 5)) (.cons (.var 1) .nil))))) 0) 4
   (.need (.t true) (.c (.bin .le (.var 5) (.un .len (.var 0))))
   (.need (.t true) (.pre 11200 (.cons (.var 2) (.cons (.sub (.var 0) (.n 0) (.var 5)) (.cons (.un .len (.sub (.var 0) (.n 0) (.var 5))) (.cons (.n 0) (.cons (.var 6) (.cons (.var 7) (.cons (.var 8) (.cons (.var 9) .nil)))))))))
   (.lt (.app 11200 (.cons (.var 2) (.cons (.sub (.var 0) (.n 0) (.var 5)) (.cons (.un .len (.sub (.var 0) (.n 0) (.var 5))) (.cons (.n 0) (.cons (.var 6) (.cons (.var 7) (.cons (.var 8) (.cons (.var 9) .nil)))))))) 0) 3
   (.ite (.bin .eq (.var 10) (.n 0))
    (.ret (.cons (.n 0) (.cons (.var 11) (.cons (.var 5) .nil))))
    (.ret (.cons (.n (-1)) (.cons (.var 11) (.cons (.bin (.add .i64) (.var 5) (.n 1)) .nil))))))))))))
   (.ret (.cons (.n 1) (.cons (.var 2) (.cons (.var 5) .nil)))))
theorem le12_0 : (loopVT Try.prog (sgOf sg12) (ltOf lt12) L12_0 lb12_0).slim L12_0.nv [] = rt12_0 := by kernel_rfl
theorem lf12_0 : (firstRegion lb12_0).bind (ltOf lt12) = some L12_0 := by kernel_rfl
theorem lk12_0 : (Code.loops lb12_0).length = 1 := by kernel_rfl
theorem li12_0_0 : (Code.loops lb12_0).getD 0 .skip = lb12_1 := by kernel_rfl
def rt12_1 : VT :=
  (.ite (.bin .lt (.var 3) (.var 2))
   (.need (.t true) (.c (.bin .le (.n 0) (.var 3)))
   (.need (.t true) (.c (.bin .lt (.var 3) (.un .len (.var 1))))
   (.need (.t true) (.pre 22 (.cons (.sel 0 (.var 1) (.var 3)) (.cons (.sel 1 (.var 1) (.var 3)) (.cons (.sel 2 (.var 1) (.var 3)) (.cons (.sel 3 (.var 1) (.var 3)) (.cons (.var 4) (.cons (.var 5) (.cons (.var 6) (.cons (.var 7) .nil)))))))))
   (.lt (.app 22 (.cons (.sel 0 (.var 1) (.var 3)) (.cons (.sel 1 (.var 1) (.var 3)) (.cons (.sel 2 (.var 1) (.var 3)) (.cons (.sel 3 (.var 1) (.var 3)) (.cons (.var 4) (.cons (.var 5) (.cons (.var 6) (.cons (.var 7) .nil)))))))) 0) 1
   (.ite (.var 8)
    (.ret (.cons (.n 0) (.cons (.t false) (.cons (.var 3) .nil))))
    (.ret (.cons (.n (-1)) (.cons (.var 0) (.cons (.bin (.add .i64) (.var 3) (.n 1)) .nil)))))))))
   (.ret (.cons (.n 1) (.cons (.var 0) (.cons (.var 3) .nil)))))
theorem le12_1 : (loopVT Try.prog (sgOf sg12) (ltOf lt12) L12_1 lb12_1).slim L12_1.nv [] = rt12_1 := by kernel_rfl
theorem lf12_1 : (firstRegion lb12_1).bind (ltOf lt12) = some L12_1 := by kernel_rfl
theorem lk12_1 : (Code.loops lb12_1).length = 0 := by kernel_rfl
def vt12 : VT :=
  (.need (.t true) (.pre 11201 (.cons (.var 0) (.cons (.var 1) (.cons (.t false) (.cons (.var 0) (.cons (.un .len (.var 0)) (.cons (.n 0) .nil)))))))
  (.lt (.app 11201 (.cons (.var 0) (.cons (.var 1) (.cons (.t false) (.cons (.var 0) (.cons (.un .len (.var 0)) (.cons (.n 0) .nil)))))) 0) 3
  (.ite (.bin .eq (.var 2) (.n 0))
   (.ret (.cons (.var 3) .nil))
   (.ret (.cons (.t true) .nil)))))
theorem e12 : (fnVT Try.prog (sgOf sg12) (ltOf lt12) S12 Try.f12 c12).slim (S12.ps.map fun p => p.2.length).sum [] = vt12 := by kernel_rfl

/-! ### 8 -/
def S8 : Sig := ⟨[], [(false, [.bool])]⟩
noncomputable def c8 : Code := Try.f8.body.getD .skip
theorem b8 : Try.f8.body = some c8 := body_some (by kernel_rfl)
theorem n8 : (Try.f8.name == "runtime.NumGoroutine") = false := by kernel_rfl
def sg8 : List (FuncId × Sig) := [(9, S9), (14, S14), (11, S11), (12, S12)]
def lt8 : List (Nat × LoopSig) := []
theorem k8 : (Code.loops c8).length = 0 := by kernel_rfl
def vt8 : VT :=
  (.need (.t true) (.pre 9 (.cons (.lcons (.cons (.n 4) (.cons (.n 2) .nil)) (.lcons (.cons (.n 3) (.cons (.n 5) .nil)) (.lcons (.cons (.n 4) (.cons (.n 1) .nil)) .lnil))) (.cons (.n 8) (.cons (.n 1) .nil))))
  (.lt (.app 9 (.cons (.lcons (.cons (.n 4) (.cons (.n 2) .nil)) (.lcons (.cons (.n 3) (.cons (.n 5) .nil)) (.lcons (.cons (.n 4) (.cons (.n 1) .nil)) .lnil))) (.cons (.n 8) (.cons (.n 1) .nil))) 0) 2
  (.need (.t true) (.pre 14 (.cons (.lcons (.cons (.n 4) (.cons (.n 2) .nil)) (.lcons (.cons (.n 3) (.cons (.n 5) .nil)) (.lcons (.cons (.n 4) (.cons (.n 1) .nil)) .lnil))) (.cons (.n 1) .nil)))
  (.lt (.app 14 (.cons (.lcons (.cons (.n 4) (.cons (.n 2) .nil)) (.lcons (.cons (.n 3) (.cons (.n 5) .nil)) (.lcons (.cons (.n 4) (.cons (.n 1) .nil)) .lnil))) (.cons (.n 1) .nil)) 0) 2
  (.need (.bin .eq (.var 1) (.n 0)) (.pre 11 (.cons (.var 0) (.cons (.lcons (.cons (.n 0) (.cons (.n 0) (.cons (.n 4) (.cons (.n 2) .nil)))) (.lcons (.cons (.n 5) (.cons (.n 0) (.cons (.n 8) (.cons (.n 5) .nil)))) (.lcons (.cons (.n 0) (.cons (.n 6) (.cons (.n 4) (.cons (.n 7) .nil)))) .lnil))) .nil)))
  (.lt (.app 11 (.cons (.var 0) (.cons (.lcons (.cons (.n 0) (.cons (.n 0) (.cons (.n 4) (.cons (.n 2) .nil)))) (.lcons (.cons (.n 5) (.cons (.n 0) (.cons (.n 8) (.cons (.n 5) .nil)))) (.lcons (.cons (.n 0) (.cons (.n 6) (.cons (.n 4) (.cons (.n 7) .nil)))) .lnil))) .nil)) 0) 1
  (.need (.ite (.ite (.bin .eq (.var 1) (.n 0)) (.var 4) (.t false)) (.bin .eq (.var 3) (.n 0)) (.t false)) (.pre 11 (.cons (.var 2) (.cons (.lcons (.cons (.n 0) (.cons (.n 0) (.cons (.n 4) (.cons (.n 2) .nil)))) (.lcons (.cons (.n 5) (.cons (.n 0) (.cons (.n 8) (.cons (.n 5) .nil)))) (.lcons (.cons (.n 0) (.cons (.n 6) (.cons (.n 4) (.cons (.n 7) .nil)))) .lnil))) .nil)))
  (.lt (.app 11 (.cons (.var 2) (.cons (.lcons (.cons (.n 0) (.cons (.n 0) (.cons (.n 4) (.cons (.n 2) .nil)))) (.lcons (.cons (.n 5) (.cons (.n 0) (.cons (.n 8) (.cons (.n 5) .nil)))) (.lcons (.cons (.n 0) (.cons (.n 6) (.cons (.n 4) (.cons (.n 7) .nil)))) .lnil))) .nil)) 0) 1
  (.need (.ite (.ite (.ite (.bin .eq (.var 1) (.n 0)) (.var 4) (.t false)) (.bin .eq (.var 3) (.n 0)) (.t false)) (.var 5) (.t false)) (.pre 12 (.cons (.var 0) (.cons (.n 1) .nil)))
  (.lt (.app 12 (.cons (.var 0) (.cons (.n 1) .nil)) 0) 1
  (.need (.ite (.ite (.ite (.ite (.bin .eq (.var 1) (.n 0)) (.var 4) (.t false)) (.bin .eq (.var 3) (.n 0)) (.t false)) (.var 5) (.t false)) (.var 6) (.t false)) (.pre 12 (.cons (.var 0) (.cons (.n 2) .nil)))
  (.lt (.app 12 (.cons (.var 0) (.cons (.n 2) .nil)) 0) 1
  (.ret (.cons (.ite (.ite (.ite (.ite (.ite (.bin .eq (.var 1) (.n 0)) (.var 4) (.t false)) (.bin .eq (.var 3) (.n 0)) (.t false)) (.var 5) (.t false)) (.var 6) (.t false)) (.un .not (.var 7)) (.t false)) .nil))))))))))))))
theorem e8 : (fnVT Try.prog (sgOf sg8) (ltOf lt8) S8 Try.f8 c8).slim (S8.ps.map fun p => p.2.length).sum [] = vt8 := by kernel_rfl

/-! ### 20 -/
def S20 : Sig := ⟨[(false, [(.sl 37 [(.int .i64), (.int .i64)])]), (false, [(.int .i64)]), (false, [(.int .i64)])], [(false, [(.int .i64)])]⟩
noncomputable def c20 : Code := Try.f20.body.getD .skip
theorem b20 : Try.f20.body = some c20 := body_some (by kernel_rfl)
theorem n20 : (Try.f20.name == "runtime.NumGoroutine") = false := by kernel_rfl
def sg20 : List (FuncId × Sig) := []
def L20_0 : LoopSig := ⟨12000, [],
   ⟨[(.c (.x (.sl 37 [(.int .i64), (.int .i64)]) (.var 0))), .any, .any, .any, .any, .any, (.c (.x (.int .i64) (.var 1))), (.c (.x (.int .i64) (.var 2))), .any, .any, .any, .any, .any, .any, .any, .any, .any, .any, .any, .any, .any, .any, .any, .any, .any, .any, .any, .any, .any, .any, .any, .any, .any, .any, .any, .any, .any, .any, .any, .any, .any, .any, .any, .any, .any, .any, .any, .any, .any, .any, .any, .any, .any, .any, .any, .any, .any, .any, .any, .any, .any],
    []⟩,
   3, [1, 2], [8, 9, 10, 11, 14, 15, 16, 17, 18, 19, 20, 21, 22, 23, 24, 25, 26, 27, 28, 29, 30, 31, 32, 33, 34, 35, 36, 37, 38, 39, 40, 41, 42, 43, 6, 12, 13, 7], [.ret, (.exit 0)]⟩
def lt20 : List (Nat × LoopSig) := [(2, L20_0)]
theorem k20 : (Code.loops c20).length = 1 := by kernel_rfl
noncomputable def lb20_0 : Code := (Code.loops c20).getD 0 .skip
def rt20_0 : VT :=
  (.ite (.bin .lt (.var 2) (.un .len (.var 0)))
   (.need (.t true) (.c (.bin .le (.n 0) (.var 2)))
   (.ite (.ite (.ite (.ite (.bin .lt (.sel 0 (.var 0) (.var 2)) (.n 0)) (.t true) (.bin .lt (.n 1048576) (.sel 0 (.var 0) (.var 2)))) (.t true) (.bin .lt (.sel 1 (.var 0) (.var 2)) (.n 0))) (.t true) (.bin .lt (.n 1048576) (.sel 1 (.var 0) (.var 2))))
    (.ret (.cons (.n 0) (.cons (.n 1) (.cons (.var 2) .nil))))
    (.ret (.cons (.n (-1)) (.cons (.var 1) (.cons (.bin (.add .i64) (.var 2) (.n 1)) .nil))))))
   (.ret (.cons (.n 1) (.cons (.var 1) (.cons (.var 2) .nil)))))
theorem le20_0 : (loopVT Try.prog (sgOf sg20) (ltOf lt20) L20_0 lb20_0).slim L20_0.nv [] = rt20_0 := by kernel_rfl
theorem lf20_0 : (firstRegion lb20_0).bind (ltOf lt20) = some L20_0 := by kernel_rfl
theorem lk20_0 : (Code.loops lb20_0).length = 0 := by kernel_rfl
def vt20 : VT :=
  (.need (.t true) (.pre 12000 (.cons (.var 0) (.cons (.n 0) (.cons (.n 0) .nil))))
  (.lt (.app 12000 (.cons (.var 0) (.cons (.n 0) (.cons (.n 0) .nil))) 0) 3
  (.ite (.bin .eq (.var 3) (.n 0))
   (.ret (.cons (.var 4) .nil))
   (.ite (.ite (.ite (.ite (.bin .lt (.var 1) (.n 0)) (.t true) (.bin .lt (.n 268435456) (.var 1))) (.t true) (.bin .lt (.var 2) (.n 0))) (.t true) (.bin .lt (.n 1048576) (.var 2)))
    (.ret (.cons (.n 1) .nil))
    (.ite (.bin .lt (.n 64) (.un .len (.var 0)))
     (.ret (.cons (.n 2) .nil))
     (.ret (.cons (.n 0) .nil)))))))
theorem e20 : (fnVT Try.prog (sgOf sg20) (ltOf lt20) S20 Try.f20 c20).slim (S20.ps.map fun p => p.2.length).sum [] = vt20 := by kernel_rfl

/-! ### 10 -/
def S10 : Sig := ⟨[(false, [(.sl 37 [(.int .i64), (.int .i64)])]), (false, [(.int .i64)]), (false, [(.int .i64)])], [(false, [(.sl 35 [(.int .i64), (.int .i64), (.int .i64), (.int .i64)])]), (false, [(.int .i64)])]⟩
noncomputable def c10 : Code := Try.f10.body.getD .skip
theorem b10 : Try.f10.body = some c10 := body_some (by kernel_rfl)
theorem n10 : (Try.f10.name == "runtime.NumGoroutine") = false := by kernel_rfl
def sg10 : List (FuncId × Sig) := [(20, S20)]
def L10_0 : LoopSig := ⟨11000, [(9, none, 35)],
   ⟨[(.c (.x (.sl 37 [(.int .i64), (.int .i64)]) (.var 0))), (.c (.x (.int .i64) (.var 1))), (.c (.x (.int .i64) (.var 2))), .any, .any, .any, .any, .any, .any, (.c (.row 0 1)), (.c (.x (.int .i64) (.var 3))), (.c (.x (.int .i64) (.var 4))), (.c (.x (.int .i64) (.var 5))), (.c (.x (.int .i64) (.var 6))), .any, .any, .any, .any, .any, .any, .any, .any, .any, .any, .any, .any, .any, .any, .any, .any, .any, .any, .any, .any, .any, .any, .any, .any, .any, .any, .any, .any, .any, .any, .any, .any, .any, .any, .any, .any, .any, .any, .any, .any, .any, .any, .any, .any, .any, .any, .any, .any, .any, .any, .any, .any, .any, .any, .any, .any, .any, .any, .any, .any, .any],
    [some ⟨(.t true), (.row 35 [(.int .i64), (.int .i64), (.int .i64), (.int .i64)] (.var 7) 1 false)⟩]⟩,
   8, [3, 4, 5, 6, 7], [22, 23, 24, 25, 28, 29, 30, 31, 32, 33, 34, 35, 36, 37, 38, 39, 40, 10, 41, 42, 43, 11, 44, 12, 45, 46, 47, 48, 49, 50, 51, 52, 53, 54, 55, 56, 57, 58, 59, 60, 61, 14, 62, 63, 64, 65, 66, 67, 68, 69, 9, 70, 71, 72, 73, 26, 27, 13], [(.exit 0)]⟩
def lt10 : List (Nat × LoopSig) := [(7, L10_0)]
theorem k10 : (Code.loops c10).length = 1 := by kernel_rfl
noncomputable def lb10_0 : Code := (Code.loops c10).getD 0 .skip
def rt10_0 : VT :=
  (.ite (.bin .lt (.var 6) (.un .len (.var 0)))
   (.need (.bin .lt (.n 0) (.var 6)) (.c (.bin .le (.n 0) (.var 6)))
   (.ite (.ite (.bin .lt (.n 0) (.var 6)) (.bin .lt (.var 1) (.bin (.add .i64) (.var 3) (.sel 0 (.var 0) (.var 6)))) (.t false))
    (.need (.t true) (.c (.bin .le (.n 0) (.var 6)))
    (.need (.t true) (.c (.bin .le (.un .len (.bin .cat (.var 7) (.lcons (.cons (.n 0) (.cons (.bin (.add .i64) (.var 5) (.var 2)) (.cons (.bin (.add .i64) (.n 0) (.sel 0 (.var 0) (.var 6))) (.cons (.bin (.add .i64) (.bin (.add .i64) (.var 5) (.var 2)) (.sel 1 (.var 0) (.var 6))) .nil)))) .lnil))) (.n 4398046511104)))
    (.ret (.cons (.n (-1)) (.cons (.bin (.add .i64) (.bin (.add .i64) (.n 0) (.sel 0 (.var 0) (.var 6))) (.var 2)) (.cons (.bin (.add .i64) (.var 5) (.var 2)) (.cons (.bin .max (.bin (.add .i64) (.var 5) (.var 2)) (.bin (.add .i64) (.bin (.add .i64) (.var 5) (.var 2)) (.sel 1 (.var 0) (.var 6)))) (.cons (.bin (.add .i64) (.var 6) (.n 1)) (.cons (.bin .cat (.var 7) (.lcons (.cons (.n 0) (.cons (.bin (.add .i64) (.var 5) (.var 2)) (.cons (.bin (.add .i64) (.n 0) (.sel 0 (.var 0) (.var 6))) (.cons (.bin (.add .i64) (.bin (.add .i64) (.var 5) (.var 2)) (.sel 1 (.var 0) (.var 6))) .nil)))) .lnil)) .nil)))))))))
    (.need (.t true) (.c (.bin .le (.n 0) (.var 6)))
    (.need (.t true) (.c (.bin .le (.un .len (.bin .cat (.var 7) (.lcons (.cons (.var 3) (.cons (.var 4) (.cons (.bin (.add .i64) (.var 3) (.sel 0 (.var 0) (.var 6))) (.cons (.bin (.add .i64) (.var 4) (.sel 1 (.var 0) (.var 6))) .nil)))) .lnil))) (.n 4398046511104)))
    (.ret (.cons (.n (-1)) (.cons (.bin (.add .i64) (.bin (.add .i64) (.var 3) (.sel 0 (.var 0) (.var 6))) (.var 2)) (.cons (.var 4) (.cons (.bin .max (.var 5) (.bin (.add .i64) (.var 4) (.sel 1 (.var 0) (.var 6)))) (.cons (.bin (.add .i64) (.var 6) (.n 1)) (.cons (.bin .cat (.var 7) (.lcons (.cons (.var 3) (.cons (.var 4) (.cons (.bin (.add .i64) (.var 3) (.sel 0 (.var 0) (.var 6))) (.cons (.bin (.add .i64) (.var 4) (.sel 1 (.var 0) (.var 6))) .nil)))) .lnil)) .nil)))))))))))
   (.ret (.cons (.n 0) (.cons (.var 3) (.cons (.var 4) (.cons (.var 5) (.cons (.var 6) (.cons (.var 7) .nil))))))))
theorem le10_0 : (loopVT Try.prog (sgOf sg10) (ltOf lt10) L10_0 lb10_0).slim L10_0.nv [] = rt10_0 := by kernel_rfl
theorem lf10_0 : (firstRegion lb10_0).bind (ltOf lt10) = some L10_0 := by kernel_rfl
theorem lk10_0 : (Code.loops lb10_0).length = 0 := by kernel_rfl
def vt10 : VT :=
  (.need (.t true) (.pre 20 (.cons (.var 0) (.cons (.var 1) (.cons (.var 2) .nil))))
  (.lt (.app 20 (.cons (.var 0) (.cons (.var 1) (.cons (.var 2) .nil))) 0) 1
  (.ite (.un .not (.bin .eq (.var 3) (.n 0)))
   (.ret (.cons .lnil (.cons (.var 3) .nil)))
   (.need (.t true) (.pre 11000 (.cons (.var 0) (.cons (.var 1) (.cons (.var 2) (.cons (.n 0) (.cons (.n 0) (.cons (.n 0) (.cons (.n 0) (.cons .lnil .nil)))))))))
   (.lt (.app 11000 (.cons (.var 0) (.cons (.var 1) (.cons (.var 2) (.cons (.n 0) (.cons (.n 0) (.cons (.n 0) (.cons (.n 0) (.cons .lnil .nil)))))))) 0) 6
   (.ret (.cons (.var 9) (.cons (.n 0) .nil))))))))
theorem e10 : (fnVT Try.prog (sgOf sg10) (ltOf lt10) S10 Try.f10 c10).slim (S10.ps.map fun p => p.2.length).sum [] = vt10 := by kernel_rfl

/-! ### 3 -/
def S3 : Sig := ⟨[(false, [(.sl 37 [(.int .i64), (.int .i64)])]), (false, [(.int .i64)]), (false, [(.int .i64)])], [(false, [.bool])]⟩
noncomputable def c3 : Code := Try.f3.body.getD .skip
theorem b3 : Try.f3.body = some c3 := body_some (by kernel_rfl)
theorem n3 : (Try.f3.name == "runtime.NumGoroutine") = false := by kernel_rfl
def sg3 : List (FuncId × Sig) := [(8, S8), (9, S9), (10, S10), (11, S11)]
def lt3 : List (Nat × LoopSig) := []
theorem k3 : (Code.loops c3).length = 0 := by kernel_rfl
def vt3 : VT :=
  (.ite (.bin .lt (.n 100) (.un .len (.var 0)))
   (.need (.t true) (.pre 8 .nil)
   (.lt (.app 8 .nil 0) 1
   (.ret (.cons (.var 3) .nil))))
   (.need (.t true) (.pre 9 (.cons (.var 0) (.cons (.var 1) (.cons (.var 2) .nil))))
   (.lt (.app 9 (.cons (.var 0) (.cons (.var 1) (.cons (.var 2) .nil))) 0) 2
   (.need (.t true) (.pre 10 (.cons (.var 0) (.cons (.var 1) (.cons (.var 2) .nil))))
   (.lt (.app 10 (.cons (.var 0) (.cons (.var 1) (.cons (.var 2) .nil))) 0) 2
   (.need (.bin .eq (.var 4) (.var 6)) (.pre 11 (.cons (.var 3) (.cons (.var 5) .nil)))
   (.lt (.app 11 (.cons (.var 3) (.cons (.var 5) .nil)) 0) 1
   (.need (.ite (.bin .eq (.var 4) (.var 6)) (.var 7) (.t false)) (.pre 8 .nil)
   (.lt (.app 8 .nil 0) 1
   (.ret (.cons (.ite (.ite (.bin .eq (.var 4) (.var 6)) (.var 7) (.t false)) (.var 8) (.t false)) .nil)))))))))))
theorem e3 : (fnVT Try.prog (sgOf sg3) (ltOf lt3) S3 Try.f3 c3).slim (S3.ps.map fun p => p.2.length).sum [] = vt3 := by kernel_rfl

/-! ### 26 -/
def S26 : Sig := ⟨[(true, [(.int .i64), (.int .i64)])], [(false, [.bool])]⟩
noncomputable def c26 : Code := Try.f26.body.getD .skip
theorem b26 : Try.f26.body = some c26 := body_some (by kernel_rfl)
theorem n26 : (Try.f26.name == "runtime.NumGoroutine") = false := by kernel_rfl
def sg26 : List (FuncId × Sig) := []
def lt26 : List (Nat × LoopSig) := []
theorem k26 : (Code.loops c26).length = 0 := by kernel_rfl
def vt26 : VT :=
  (.ret (.cons (.ite (.ite (.ite (.bin .le (.n (-268435456)) (.var 0)) (.bin .le (.var 0) (.n 268435456)) (.t false)) (.bin .le (.n (-268435456)) (.var 1)) (.t false)) (.bin .le (.var 1) (.n 268435456)) (.t false)) .nil))
theorem e26 : (fnVT Try.prog (sgOf sg26) (ltOf lt26) S26 Try.f26 c26).slim (S26.ps.map fun p => p.2.length).sum [] = vt26 := by kernel_rfl
def T26 : FuncId → List D → List D := tabOf []
def fn26 (ρ : List D) : List D := vt26.val T26 ρ
theorem m26 : Meets Try.prog 26 S26 (fun _ => True) fn26 := meets_easy (sgl := sg26) (Φ := T26) mixed ((fun _ h => nomatch h)) Try.func26 b26 n26 k26 e26 (by kernel_rfl)

/-! ### 16 -/
def S16 : Sig := ⟨[(true, [(.int .i64), (.int .i64), (.int .i64), (.int .i64)])], [(false, [.bool])]⟩
noncomputable def c16 : Code := Try.f16.body.getD .skip
theorem b16 : Try.f16.body = some c16 := body_some (by kernel_rfl)
theorem n16 : (Try.f16.name == "runtime.NumGoroutine") = false := by kernel_rfl
def sg16 : List (FuncId × Sig) := [(26, S26)]
def lt16 : List (Nat × LoopSig) := []
theorem k16 : (Code.loops c16).length = 0 := by kernel_rfl
def vt16 : VT :=
  (.need (.t true) (.pre 26 (.cons (.var 0) (.cons (.var 1) .nil)))
  (.lt (.app 26 (.cons (.var 0) (.cons (.var 1) .nil)) 0) 1
  (.need (.var 4) (.pre 26 (.cons (.var 2) (.cons (.var 3) .nil)))
  (.lt (.app 26 (.cons (.var 2) (.cons (.var 3) .nil)) 0) 1
  (.ret (.cons (.ite (.ite (.ite (.var 4) (.var 5) (.t false)) (.bin .le (.var 0) (.var 2)) (.t false)) (.bin .le (.var 1) (.var 3)) (.t false)) .nil))))))
theorem e16 : (fnVT Try.prog (sgOf sg16) (ltOf lt16) S16 Try.f16 c16).slim (S16.ps.map fun p => p.2.length).sum [] = vt16 := by kernel_rfl
def T16 : FuncId → List D → List D := tabOf [(26, fn26)]
def fn16 (ρ : List D) : List D := vt16.val T16 ρ
theorem m16 : Meets Try.prog 16 S16 (fun _ => True) fn16 := meets_easy (sgl := sg16) (Φ := T16) mixed (List.forall_mem_cons.2 ⟨m26, (fun _ h => nomatch h)⟩) Try.func16 b16 n16 k16 e16 (by kernel_rfl)

/-! ### 24 -/
def S24 : Sig := ⟨[(true, [(.int .i64), (.int .i64), (.int .i64), (.int .i64)]), (false, [(.int .i64)])], [(true, [(.int .i64), (.int .i64), (.int .i64), (.int .i64)])]⟩
noncomputable def c24 : Code := Try.f24.body.getD .skip
theorem b24 : Try.f24.body = some c24 := body_some (by kernel_rfl)
theorem n24 : (Try.f24.name == "runtime.NumGoroutine") = false := by kernel_rfl
def sg24 : List (FuncId × Sig) := [(16, S16)]
def lt24 : List (Nat × LoopSig) := []
theorem k24 : (Code.loops c24).length = 0 := by kernel_rfl
def vt24 : VT :=
  (.need (.t true) (.pre 16 (.cons (.var 0) (.cons (.var 1) (.cons (.var 2) (.cons (.var 3) .nil)))))
  (.lt (.app 16 (.cons (.var 0) (.cons (.var 1) (.cons (.var 2) (.cons (.var 3) .nil)))) 0) 1
  (.ite (.ite (.ite (.un .not (.var 5)) (.t true) (.bin .lt (.var 4) (.n (-536870912)))) (.t true) (.bin .lt (.n 536870912) (.var 4)))
   (.ret (.cons (.n 0) (.cons (.n 0) (.cons (.n 0) (.cons (.n 0) .nil)))))
   (.need (.t true) (.pre 16 (.cons (.bin (.sub .i64) (.var 0) (.var 4)) (.cons (.bin (.sub .i64) (.var 1) (.var 4)) (.cons (.bin (.add .i64) (.var 2) (.var 4)) (.cons (.bin (.add .i64) (.var 3) (.var 4)) .nil)))))
   (.lt (.app 16 (.cons (.bin (.sub .i64) (.var 0) (.var 4)) (.cons (.bin (.sub .i64) (.var 1) (.var 4)) (.cons (.bin (.add .i64) (.var 2) (.var 4)) (.cons (.bin (.add .i64) (.var 3) (.var 4)) .nil)))) 0) 1
   (.ite (.un .not (.var 6))
    (.ret (.cons (.n 0) (.cons (.n 0) (.cons (.n 0) (.cons (.n 0) .nil)))))
    (.ret (.cons (.bin (.sub .i64) (.var 0) (.var 4)) (.cons (.bin (.sub .i64) (.var 1) (.var 4)) (.cons (.bin (.add .i64) (.var 2) (.var 4)) (.cons (.bin (.add .i64) (.var 3) (.var 4)) .nil)))))))))))
theorem e24 : (fnVT Try.prog (sgOf sg24) (ltOf lt24) S24 Try.f24 c24).slim (S24.ps.map fun p => p.2.length).sum [] = vt24 := by kernel_rfl
def T24 : FuncId → List D → List D := tabOf [(16, fn16)]
def fn24 (ρ : List D) : List D := vt24.val T24 ρ
theorem m24 : Meets Try.prog 24 S24 (fun _ => True) fn24 := meets_easy (sgl := sg24) (Φ := T24) mixed (List.forall_mem_cons.2 ⟨m16, (fun _ h => nomatch h)⟩) Try.func24 b24 n24 k24 e24 (by kernel_rfl)

/-! ### 23 -/
def S23 : Sig := ⟨[(true, [(.int .i64), (.int .i64), (.int .i64), (.int .i64)]), (true, [(.int .i64), (.int .i64), (.int .i64), (.int .i64)])], [(false, [.bool])]⟩
noncomputable def c23 : Code := Try.f23.body.getD .skip
theorem b23 : Try.f23.body = some c23 := body_some (by kernel_rfl)
theorem n23 : (Try.f23.name == "runtime.NumGoroutine") = false := by kernel_rfl
def sg23 : List (FuncId × Sig) := [(16, S16)]
def lt23 : List (Nat × LoopSig) := []
theorem k23 : (Code.loops c23).length = 0 := by kernel_rfl
def vt23 : VT :=
  (.need (.t true) (.pre 16 (.cons (.var 0) (.cons (.var 1) (.cons (.var 2) (.cons (.var 3) .nil)))))
  (.lt (.app 16 (.cons (.var 0) (.cons (.var 1) (.cons (.var 2) (.cons (.var 3) .nil)))) 0) 1
  (.need (.var 8) (.pre 16 (.cons (.var 4) (.cons (.var 5) (.cons (.var 6) (.cons (.var 7) .nil)))))
  (.lt (.app 16 (.cons (.var 4) (.cons (.var 5) (.cons (.var 6) (.cons (.var 7) .nil)))) 0) 1
  (.ret (.cons (.ite (.ite (.ite (.var 8) (.var 9) (.t false)) (.bin .lt (.bin .max (.var 0) (.var 4)) (.bin .min (.var 2) (.var 6))) (.t false)) (.bin .lt (.bin .max (.var 1) (.var 5)) (.bin .min (.var 3) (.var 7))) (.t false)) .nil))))))
theorem e23 : (fnVT Try.prog (sgOf sg23) (ltOf lt23) S23 Try.f23 c23).slim (S23.ps.map fun p => p.2.length).sum [] = vt23 := by kernel_rfl
def T23 : FuncId → List D → List D := tabOf [(16, fn16)]
def fn23 (ρ : List D) : List D := vt23.val T23 ρ
theorem m23 : Meets Try.prog 23 S23 (fun _ => True) fn23 := meets_easy (sgl := sg23) (Φ := T23) mixed (List.forall_mem_cons.2 ⟨m16, (fun _ h => nomatch h)⟩) Try.func23 b23 n23 k23 e23 (by kernel_rfl)

/-! ### 13 -/
def S13 : Sig := ⟨[(false, [(.sl 35 [(.int .i64), (.int .i64), (.int .i64), (.int .i64)])]), (false, [(.int .i64)])], [(false, [.bool])]⟩
noncomputable def c13 : Code := Try.f13.body.getD .skip
theorem b13 : Try.f13.body = some c13 := body_some (by kernel_rfl)
theorem n13 : (Try.f13.name == "runtime.NumGoroutine") = false := by kernel_rfl
def sg13 : List (FuncId × Sig) := [(24, S24), (23, S23)]
def L13_0 : LoopSig := ⟨11301, [],
   ⟨[(.c (.x (.sl 35 [(.int .i64), (.int .i64), (.int .i64), (.int .i64)]) (.var 0))), (.c (.x (.int .i64) (.var 1))), .any, .any, (.c (.x .bool (.var 2))), (.c (.x (.int .i64) (.var 3))), .any, .any, .any, .any, .any, .any, .any, .any, .any, .any, .any, .any, .any, .any, .any, .any, .any, .any, .any, .any, .any, .any, .any],
    []⟩,
   4, [2, 3], [7, 8, 9, 10, 6, 13, 14, 15, 18, 19, 20, 21, 22, 23, 24, 25, 26, 27, 28, 4, 16, 17, 11, 12, 5], [.ret, (.exit 0)]⟩
def L13_1 : LoopSig := ⟨11300, [],
   ⟨[(.c (.x (.sl 35 [(.int .i64), (.int .i64), (.int .i64), (.int .i64)]) (.var 0))), (.c (.x (.int .i64) (.var 1))), .any, .any, (.c (.x .bool (.var 2))), (.c (.x (.int .i64) (.var 3))), (.c (.x (.int .i64) (.var 4))), .any, .any, .any, .any, .any, .any, .any, .any, .any, .any, .any, .any, .any, .any, .any, .any, .any, .any, .any, .any, .any, .any],
    []⟩,
   5, [2, 4], [13, 14, 15, 18, 19, 20, 21, 22, 23, 24, 25, 26, 27, 28, 4, 16, 17, 6], [.ret, (.exit 2)]⟩
def lt13 : List (Nat × LoopSig) := [(2, L13_0), (5, L13_1)]
theorem k13 : (Code.loops c13).length = 2 := by kernel_rfl
noncomputable def lb13_0 : Code := (Code.loops c13).getD 0 .skip
noncomputable def lb13_1 : Code := (Code.loops c13).getD 1 .skip
def rt13_0 : VT :=
  (.ite (.bin .lt (.var 3) (.un .len (.var 0)))
   (.need (.t true) (.pre 11300 (.cons (.var 0) (.cons (.var 1) (.cons (.var 2) (.cons (.var 3) (.cons (.n 0) .nil))))))
   (.lt (.app 11300 (.cons (.var 0) (.cons (.var 1) (.cons (.var 2) (.cons (.var 3) (.cons (.n 0) .nil))))) 0) 3
   (.ite (.bin .eq (.var 4) (.n 0))
    (.ret (.cons (.n 0) (.cons (.var 5) (.cons (.var 3) .nil))))
    (.ret (.cons (.n (-1)) (.cons (.var 5) (.cons (.bin (.add .i64) (.var 3) (.n 1)) .nil)))))))
   (.ret (.cons (.n 1) (.cons (.var 2) (.cons (.var 3) .nil)))))
theorem le13_0 : (loopVT Try.prog (sgOf sg13) (ltOf lt13) L13_0 lb13_0).slim L13_0.nv [] = rt13_0 := by kernel_rfl
theorem lf13_0 : (firstRegion lb13_0).bind (ltOf lt13) = some L13_0 := by kernel_rfl
theorem lk13_0 : (Code.loops lb13_0).length = 1 := by kernel_rfl
theorem li13_0_0 : (Code.loops lb13_0).getD 0 .skip = lb13_1 := by kernel_rfl
def rt13_1 : VT :=
  (.ite (.bin .lt (.var 4) (.var 3))
   (.need (.t true) (.c (.bin .le (.n 0) (.var 4)))
   (.need (.t true) (.c (.bin .lt (.var 4) (.un .len (.var 0))))
   (.need (.t true) (.c (.bin .le (.n 0) (.var 3)))
   (.need (.t true) (.c (.bin .lt (.var 3) (.un .len (.var 0))))
   (.need (.t true) (.pre 24 (.cons (.sel 0 (.var 0) (.var 3)) (.cons (.sel 1 (.var 0) (.var 3)) (.cons (.sel 2 (.var 0) (.var 3)) (.cons (.sel 3 (.var 0) (.var 3)) (.cons (.var 1) .nil))))))
   (.lt (.app 24 (.cons (.sel 0 (.var 0) (.var 3)) (.cons (.sel 1 (.var 0) (.var 3)) (.cons (.sel 2 (.var 0) (.var 3)) (.cons (.sel 3 (.var 0) (.var 3)) (.cons (.var 1) .nil))))) 0) 4
   (.need (.t true) (.pre 23 (.cons (.sel 0 (.var 0) (.var 4)) (.cons (.sel 1 (.var 0) (.var 4)) (.cons (.sel 2 (.var 0) (.var 4)) (.cons (.sel 3 (.var 0) (.var 4)) (.cons (.var 5) (.cons (.var 6) (.cons (.var 7) (.cons (.var 8) .nil)))))))))
   (.lt (.app 23 (.cons (.sel 0 (.var 0) (.var 4)) (.cons (.sel 1 (.var 0) (.var 4)) (.cons (.sel 2 (.var 0) (.var 4)) (.cons (.sel 3 (.var 0) (.var 4)) (.cons (.var 5) (.cons (.var 6) (.cons (.var 7) (.cons (.var 8) .nil)))))))) 0) 1
   (.ite (.var 9)
    (.ret (.cons (.n 0) (.cons (.t false) (.cons (.var 4) .nil))))
    (.ret (.cons (.n (-1)) (.cons (.var 2) (.cons (.bin (.add .i64) (.var 4) (.n 1)) .nil)))))))))))))
   (.ret (.cons (.n 1) (.cons (.var 2) (.cons (.var 4) .nil)))))
theorem le13_1 : (loopVT Try.prog (sgOf sg13) (ltOf lt13) L13_1 lb13_1).slim L13_1.nv [] = rt13_1 := by kernel_rfl
theorem lf13_1 : (firstRegion lb13_1).bind (ltOf lt13) = some L13_1 := by kernel_rfl
theorem lk13_1 : (Code.loops lb13_1).length = 0 := by kernel_rfl
def vt13 : VT :=
  (.need (.t true) (.pre 11301 (.cons (.var 0) (.cons (.var 1) (.cons (.t false) (.cons (.n 0) .nil)))))
  (.lt (.app 11301 (.cons (.var 0) (.cons (.var 1) (.cons (.t false) (.cons (.n 0) .nil)))) 0) 3
  (.ite (.bin .eq (.var 2) (.n 0))
   (.ret (.cons (.var 3) .nil))
   (.ret (.cons (.t true) .nil)))))
theorem e13 : (fnVT Try.prog (sgOf sg13) (ltOf lt13) S13 Try.f13 c13).slim (S13.ps.map fun p => p.2.length).sum [] = vt13 := by kernel_rfl

/-! ### 4 -/
def S4 : Sig := ⟨[(false, [(.sl 35 [(.int .i64), (.int .i64), (.int .i64), (.int .i64)])]), (false, [(.int .i64)])], [(false, [.bool])]⟩
noncomputable def c4 : Code := Try.f4.body.getD .skip
theorem b4 : Try.f4.body = some c4 := body_some (by kernel_rfl)
theorem n4 : (Try.f4.name == "runtime.NumGoroutine") = false := by kernel_rfl
def sg4 : List (FuncId × Sig) := [(8, S8), (12, S12), (13, S13)]
def lt4 : List (Nat × LoopSig) := []
theorem k4 : (Code.loops c4).length = 0 := by kernel_rfl
def vt4 : VT :=
  (.ite (.bin .lt (.n 100) (.un .len (.var 0)))
   (.need (.t true) (.pre 8 .nil)
   (.lt (.app 8 .nil 0) 1
   (.ret (.cons (.var 2) .nil))))
   (.need (.t true) (.pre 12 (.cons (.var 0) (.cons (.var 1) .nil)))
   (.lt (.app 12 (.cons (.var 0) (.cons (.var 1) .nil)) 0) 1
   (.need (.t true) (.pre 13 (.cons (.var 0) (.cons (.var 1) .nil)))
   (.lt (.app 13 (.cons (.var 0) (.cons (.var 1) .nil)) 0) 1
   (.need (.bin .beq (.var 2) (.var 3)) (.pre 8 .nil)
   (.lt (.app 8 .nil 0) 1
   (.ret (.cons (.ite (.bin .beq (.var 2) (.var 3)) (.var 4) (.t false)) .nil)))))))))
theorem e4 : (fnVT Try.prog (sgOf sg4) (ltOf lt4) S4 Try.f4 c4).slim (S4.ps.map fun p => p.2.length).sum [] = vt4 := by kernel_rfl

/-! ### 17 -/
def S17 : Sig := ⟨[(false, [(.sl 35 [(.int .i64), (.int .i64), (.int .i64), (.int .i64)])])], [(false, [(.int .i64)])]⟩
noncomputable def c17 : Code := Try.f17.body.getD .skip
theorem b17 : Try.f17.body = some c17 := body_some (by kernel_rfl)
theorem n17 : (Try.f17.name == "runtime.NumGoroutine") = false := by kernel_rfl
def sg17 : List (FuncId × Sig) := []
def L17_0 : LoopSig := ⟨11700, [],
   ⟨[(.c (.x (.sl 35 [(.int .i64), (.int .i64), (.int .i64), (.int .i64)]) (.var 0))), .any, .any, (.c (.x (.int .i64) (.var 1))), (.c (.x (.int .i64) (.var 2))), .any, .any, .any, .any, .any, .any, .any, .any, .any, .any, .any, .any, .any, .any, .any, .any, .any, .any, .any],
    []⟩,
   3, [1, 2], [5, 6, 7, 8, 11, 12, 13, 14, 15, 16, 17, 18, 19, 20, 21, 22, 3, 9, 10, 4], [(.exit 0)]⟩
def lt17 : List (Nat × LoopSig) := [(3, L17_0)]
theorem k17 : (Code.loops c17).length = 1 := by kernel_rfl
noncomputable def lb17_0 : Code := (Code.loops c17).getD 0 .skip
def rt17_0 : VT :=
  (.ite (.bin .lt (.var 2) (.un .len (.var 0)))
   (.need (.t true) (.c (.bin .le (.n 0) (.var 2)))
   (.ret (.cons (.n (-1)) (.cons (.bin .max (.bin .max (.var 1) (.sel 2 (.var 0) (.var 2))) (.sel 3 (.var 0) (.var 2))) (.cons (.bin (.add .i64) (.var 2) (.n 1)) .nil)))))
   (.ret (.cons (.n 0) (.cons (.var 1) (.cons (.var 2) .nil)))))
theorem le17_0 : (loopVT Try.prog (sgOf sg17) (ltOf lt17) L17_0 lb17_0).slim L17_0.nv [] = rt17_0 := by kernel_rfl
theorem lf17_0 : (firstRegion lb17_0).bind (ltOf lt17) = some L17_0 := by kernel_rfl
theorem lk17_0 : (Code.loops lb17_0).length = 0 := by kernel_rfl
def vt17 : VT :=
  (.need (.t true) (.pre 11700 (.cons (.var 0) (.cons (.n 0) (.cons (.n 0) .nil))))
  (.lt (.app 11700 (.cons (.var 0) (.cons (.n 0) (.cons (.n 0) .nil))) 0) 3
  (.ret (.cons (.var 2) .nil))))
theorem e17 : (fnVT Try.prog (sgOf sg17) (ltOf lt17) S17 Try.f17 c17).slim (S17.ps.map fun p => p.2.length).sum [] = vt17 := by kernel_rfl

/-! ### 15 -/
def S15 : Sig := ⟨[(false, [(.sl 37 [(.int .i64), (.int .i64)])]), (false, [(.int .i64)])], [(false, [(.sl 35 [(.int .i64), (.int .i64), (.int .i64), (.int .i64)])]), (false, [(.int .i64)])]⟩
noncomputable def c15 : Code := Try.f15.body.getD .skip
theorem b15 : Try.f15.body = some c15 := body_some (by kernel_rfl)
theorem n15 : (Try.f15.name == "runtime.NumGoroutine") = false := by kernel_rfl
def sg15 : List (FuncId × Sig) := [(20, S20), (10, S10), (17, S17)]
def L15_0 : LoopSig := ⟨11500, [],
   ⟨[(.c (.x (.sl 37 [(.int .i64), (.int .i64)]) (.var 0))), (.c (.x (.int .i64) (.var 1))), .any, .any, .any, .any, .any, (.c (.x (.sl 35 [(.int .i64), (.int .i64), (.int .i64), (.int .i64)]) (.var 2))), (.c (.x (.int .i64) (.var 3))), (.c (.x (.int .i64) (.var 4))), .any, .any, .any, .any, .any, .any, .any, .any, .any, .any, .any, .any, .any, .any, .any, .any, .any, .any, .any, .any, .any, .any, .any, .any, .any, .any, .any, .any, .any, .any, .any, .any, .any, .any, .any, .any, .any, .any, .any, .any, .any, .any, .any, .any],
    []⟩,
   5, [2, 3, 4], [18, 19, 20, 21, 24, 25, 26, 27, 28, 8, 29, 30, 31, 32, 33, 34, 35, 37, 38, 39, 40, 36, 41, 42, 10, 11, 43, 44, 45, 46, 47, 48, 49, 50, 51, 52, 7, 22, 23, 9], [(.exit 0)]⟩
def lt15 : List (Nat × LoopSig) := [(7, L15_0)]
theorem k15 : (Code.loops c15).length = 1 := by kernel_rfl
noncomputable def lb15_0 : Code := (Code.loops c15).getD 0 .skip
def rt15_0 : VT :=
  (.ite (.bin .lt (.var 4) (.un .len (.var 0)))
   (.ite (.bin .lt (.n 0) (.var 4))
    (.need (.t true) (.c (.bin .le (.n 0) (.var 4)))
    (.need (.t true) (.pre 10 (.cons (.var 0) (.cons (.bin (.add .i64) (.bin (.add .i64) (.var 3) (.var 1)) (.sel 0 (.var 0) (.var 4))) (.cons (.var 1) .nil))))
    (.lt (.app 10 (.cons (.var 0) (.cons (.bin (.add .i64) (.bin (.add .i64) (.var 3) (.var 1)) (.sel 0 (.var 0) (.var 4))) (.cons (.var 1) .nil))) 0) 2
    (.need (.un .not (.bin .eq (.var 4) (.n 0))) (.pre 17 (.cons (.var 5) .nil))
    (.lt (.app 17 (.cons (.var 5) .nil) 0) 1
    (.need (.un .not (.bin .eq (.var 4) (.n 0))) (.pre 17 (.cons (.var 2) .nil))
    (.lt (.app 17 (.cons (.var 2) .nil) 0) 1
    (.ite (.ite (.bin .eq (.var 4) (.n 0)) (.t true) (.bin .lt (.var 7) (.var 8)))
     (.ret (.cons (.n (-1)) (.cons (.var 5) (.cons (.bin (.add .i64) (.bin (.add .i64) (.var 3) (.var 1)) (.sel 0 (.var 0) (.var 4))) (.cons (.bin (.add .i64) (.var 4) (.n 1)) .nil)))))
     (.ret (.cons (.n (-1)) (.cons (.var 2) (.cons (.bin (.add .i64) (.bin (.add .i64) (.var 3) (.var 1)) (.sel 0 (.var 0) (.var 4))) (.cons (.bin (.add .i64) (.var 4) (.n 1)) .nil)))))))))))))
    (.need (.t true) (.c (.bin .le (.n 0) (.var 4)))
    (.need (.t true) (.pre 10 (.cons (.var 0) (.cons (.bin (.add .i64) (.var 3) (.sel 0 (.var 0) (.var 4))) (.cons (.var 1) .nil))))
    (.lt (.app 10 (.cons (.var 0) (.cons (.bin (.add .i64) (.var 3) (.sel 0 (.var 0) (.var 4))) (.cons (.var 1) .nil))) 0) 2
    (.need (.un .not (.bin .eq (.var 4) (.n 0))) (.pre 17 (.cons (.var 5) .nil))
    (.lt (.app 17 (.cons (.var 5) .nil) 0) 1
    (.need (.un .not (.bin .eq (.var 4) (.n 0))) (.pre 17 (.cons (.var 2) .nil))
    (.lt (.app 17 (.cons (.var 2) .nil) 0) 1
    (.ite (.ite (.bin .eq (.var 4) (.n 0)) (.t true) (.bin .lt (.var 7) (.var 8)))
     (.ret (.cons (.n (-1)) (.cons (.var 5) (.cons (.bin (.add .i64) (.var 3) (.sel 0 (.var 0) (.var 4))) (.cons (.bin (.add .i64) (.var 4) (.n 1)) .nil)))))
     (.ret (.cons (.n (-1)) (.cons (.var 2) (.cons (.bin (.add .i64) (.var 3) (.sel 0 (.var 0) (.var 4))) (.cons (.bin (.add .i64) (.var 4) (.n 1)) .nil))))))))))))))
   (.ret (.cons (.n 0) (.cons (.var 2) (.cons (.var 3) (.cons (.var 4) .nil))))))
theorem le15_0 : (loopVT Try.prog (sgOf sg15) (ltOf lt15) L15_0 lb15_0).slim L15_0.nv [] = rt15_0 := by kernel_rfl
theorem lf15_0 : (firstRegion lb15_0).bind (ltOf lt15) = some L15_0 := by kernel_rfl
theorem lk15_0 : (Code.loops lb15_0).length = 0 := by kernel_rfl
def vt15 : VT :=
  (.need (.t true) (.pre 20 (.cons (.var 0) (.cons (.n 0) (.cons (.var 1) .nil))))
  (.lt (.app 20 (.cons (.var 0) (.cons (.n 0) (.cons (.var 1) .nil))) 0) 1
  (.ite (.un .not (.bin .eq (.var 2) (.n 0)))
   (.ret (.cons .lnil (.cons (.var 2) .nil)))
   (.need (.t true) (.pre 11500 (.cons (.var 0) (.cons (.var 1) (.cons .lnil (.cons (.n 0) (.cons (.n 0) .nil))))))
   (.lt (.app 11500 (.cons (.var 0) (.cons (.var 1) (.cons .lnil (.cons (.n 0) (.cons (.n 0) .nil))))) 0) 4
   (.ret (.cons (.var 4) (.cons (.n 0) .nil))))))))
theorem e15 : (fnVT Try.prog (sgOf sg15) (ltOf lt15) S15 Try.f15 c15).slim (S15.ps.map fun p => p.2.length).sum [] = vt15 := by kernel_rfl

/-! ### 5 -/
def S5 : Sig := ⟨[(false, [(.sl 37 [(.int .i64), (.int .i64)])]), (false, [(.int .i64)])], [(false, [.bool])]⟩
noncomputable def c5 : Code := Try.f5.body.getD .skip
theorem b5 : Try.f5.body = some c5 := body_some (by kernel_rfl)
theorem n5 : (Try.f5.name == "runtime.NumGoroutine") = false := by kernel_rfl
def sg5 : List (FuncId × Sig) := [(8, S8), (14, S14), (15, S15), (11, S11)]
def lt5 : List (Nat × LoopSig) := []
theorem k5 : (Code.loops c5).length = 0 := by kernel_rfl
def vt5 : VT :=
  (.ite (.bin .lt (.n 100) (.un .len (.var 0)))
   (.need (.t true) (.pre 8 .nil)
   (.lt (.app 8 .nil 0) 1
   (.ret (.cons (.var 2) .nil))))
   (.need (.t true) (.pre 14 (.cons (.var 0) (.cons (.var 1) .nil)))
   (.lt (.app 14 (.cons (.var 0) (.cons (.var 1) .nil)) 0) 2
   (.need (.t true) (.pre 15 (.cons (.var 0) (.cons (.var 1) .nil)))
   (.lt (.app 15 (.cons (.var 0) (.cons (.var 1) .nil)) 0) 2
   (.need (.bin .eq (.var 3) (.var 5)) (.pre 11 (.cons (.var 2) (.cons (.var 4) .nil)))
   (.lt (.app 11 (.cons (.var 2) (.cons (.var 4) .nil)) 0) 1
   (.need (.ite (.bin .eq (.var 3) (.var 5)) (.var 6) (.t false)) (.pre 8 .nil)
   (.lt (.app 8 .nil 0) 1
   (.ret (.cons (.ite (.ite (.bin .eq (.var 3) (.var 5)) (.var 6) (.t false)) (.var 7) (.t false)) .nil)))))))))))
theorem e5 : (fnVT Try.prog (sgOf sg5) (ltOf lt5) S5 Try.f5 c5).slim (S5.ps.map fun p => p.2.length).sum [] = vt5 := by kernel_rfl

/-! ### 6 -/
def S6 : Sig := ⟨[(false, [(.sl 37 [(.int .i64), (.int .i64)])]), (false, [(.int .i64)]), (false, [(.int .i64)])], [(false, [.bool])]⟩
noncomputable def c6 : Code := Try.f6.body.getD .skip
theorem b6 : Try.f6.body = some c6 := body_some (by kernel_rfl)
theorem n6 : (Try.f6.name == "runtime.NumGoroutine") = false := by kernel_rfl
def sg6 : List (FuncId × Sig) := [(8, S8), (9, S9), (13, S13), (12, S12), (16, S16)]
def L6_0 : LoopSig := ⟨10600, [],
   ⟨[(.c (.x (.sl 37 [(.int .i64), (.int .i64)]) (.var 0))), (.c (.x (.int .i64) (.var 1))), .any, .any, .any, .any, (.c (.x .bool (.var 2))), (.c (.x (.sl 35 [(.int .i64), (.int .i64), (.int .i64), (.int .i64)]) (.var 3))), .any, (.c (.x (.int .i64) (.var 4))), .any, .any, .any, .any, .any, .any, .any, .any, .any, .any, .any, .any, .any, .any, .any, .any, .any, .any, .any, .any, .any, .any, .any, .any, .any, .any, .any, .any, .any, .any, .any, .any, .any, .any, .any, .any, .any, .any, .any, .any, .any, .any, .any, .any, .any, .any, .any, .any, .any, .any, .any, .any, .any, .any, .any, .any, .any, .any, .any, .any, .any, .any, .any, .any, .any, .any, .any, .any, .any, .any, .any, .any, .any, .any, .any, .any, .any, .any, .any, .any, .any, .any, .any, .any, .any, .any, .any, .any, .any, .any, .any, .any, .any, .any, .any, .any, .any, .any, .any, .any, .any, .any, .any, .any, .any, .any, .any, .any, .any, .any, .any, .any, .any, .any, .any, .any, .any, .any, .any, .any],
    []⟩,
   5, [2, 4], [46, 47, 48, 49, 52, 53, 54, 55, 56, 57, 58, 59, 60, 61, 62, 63, 64, 65, 66, 67, 68, 69, 70, 71, 72, 73, 74, 75, 76, 77, 78, 79, 80, 81, 82, 83, 84, 85, 86, 87, 88, 89, 90, 91, 92, 93, 94, 95, 96, 97, 98, 99, 100, 101, 102, 103, 104, 105, 106, 107, 108, 109, 110, 111, 112, 113, 114, 115, 116, 117, 118, 119, 120, 121, 122, 123, 124, 125, 126, 127, 128, 6, 50, 51, 9], [.ret, (.exit 0)]⟩
def lt6 : List (Nat × LoopSig) := [(9, L6_0)]
theorem k6 : (Code.loops c6).length = 1 := by kernel_rfl
noncomputable def lb6_0 : Code := (Code.loops c6).getD 0 .skip
def rt6_0 : VT :=
  (.ite (.bin .lt (.var 4) (.un .len (.var 3)))
   (.need (.t true) (.c (.bin .le (.n 0) (.var 4)))
   (.need (.t true) (.pre 16 (.cons (.sel 0 (.var 3) (.var 4)) (.cons (.sel 1 (.var 3) (.var 4)) (.cons (.sel 2 (.var 3) (.var 4)) (.cons (.sel 3 (.var 3) (.var 4)) .nil)))))
   (.lt (.app 16 (.cons (.sel 0 (.var 3) (.var 4)) (.cons (.sel 1 (.var 3) (.var 4)) (.cons (.sel 2 (.var 3) (.var 4)) (.cons (.sel 3 (.var 3) (.var 4)) .nil)))) 0) 1
   (.need (.var 5) (.c (.bin .lt (.var 4) (.un .len (.var 0))))
   (.need (.un .not (.ite (.un .not (.var 5)) (.t true) (.un .not (.bin .eq (.bin (.sub .i64) (.sel 2 (.var 3) (.var 4)) (.sel 0 (.var 3) (.var 4))) (.sel 0 (.var 0) (.var 4)))))) (.c (.bin .lt (.var 4) (.un .len (.var 0))))
   (.ite (.ite (.ite (.ite (.ite (.ite (.un .not (.var 5)) (.t true) (.un .not (.bin .eq (.bin (.sub .i64) (.sel 2 (.var 3) (.var 4)) (.sel 0 (.var 3) (.var 4))) (.sel 0 (.var 0) (.var 4))))) (.t true) (.un .not (.bin .eq (.bin (.sub .i64) (.sel 3 (.var 3) (.var 4)) (.sel 1 (.var 3) (.var 4))) (.sel 1 (.var 0) (.var 4))))) (.t true) (.bin .lt (.sel 0 (.var 3) (.var 4)) (.n 0))) (.t true) (.bin .lt (.sel 1 (.var 3) (.var 4)) (.n 0))) (.t true) (.ite (.bin .lt (.n 0) (.sel 0 (.var 3) (.var 4))) (.bin .lt (.var 1) (.sel 2 (.var 3) (.var 4))) (.t false)))
    (.ret (.cons (.n 0) (.cons (.t false) (.cons (.var 4) .nil))))
    (.ret (.cons (.n (-1)) (.cons (.var 2) (.cons (.bin (.add .i64) (.var 4) (.n 1)) .nil))))))))))
   (.ret (.cons (.n 1) (.cons (.var 2) (.cons (.var 4) .nil)))))
theorem le6_0 : (loopVT Try.prog (sgOf sg6) (ltOf lt6) L6_0 lb6_0).slim L6_0.nv [] = rt6_0 := by kernel_rfl
theorem lf6_0 : (firstRegion lb6_0).bind (ltOf lt6) = some L6_0 := by kernel_rfl
theorem lk6_0 : (Code.loops lb6_0).length = 0 := by kernel_rfl
def vt6 : VT :=
  (.ite (.bin .lt (.n 64) (.un .len (.var 0)))
   (.need (.t true) (.pre 8 .nil)
   (.lt (.app 8 .nil 0) 1
   (.ret (.cons (.var 3) .nil))))
   (.need (.t true) (.pre 9 (.cons (.var 0) (.cons (.var 1) (.cons (.var 2) .nil))))
   (.lt (.app 9 (.cons (.var 0) (.cons (.var 1) (.cons (.var 2) .nil))) 0) 2
   (.ite (.un .not (.bin .eq (.var 4) (.n 0)))
    (.need (.bin .eq (.un .len (.var 3)) (.n 0)) (.pre 8 .nil)
    (.lt (.app 8 .nil 0) 1
    (.ret (.cons (.ite (.bin .eq (.un .len (.var 3)) (.n 0)) (.var 5) (.t false)) .nil))))
    (.need (.bin .eq (.un .len (.var 3)) (.un .len (.var 0))) (.pre 13 (.cons (.var 3) (.cons (.var 2) .nil)))
    (.lt (.app 13 (.cons (.var 3) (.cons (.var 2) .nil)) 0) 1
    (.need (.un .not (.ite (.un .not (.bin .eq (.un .len (.var 3)) (.un .len (.var 0)))) (.t true) (.un .not (.var 5)))) (.pre 12 (.cons (.var 3) (.cons (.var 2) .nil)))
    (.lt (.app 12 (.cons (.var 3) (.cons (.var 2) .nil)) 0) 1
    (.ite (.ite (.ite (.un .not (.bin .eq (.un .len (.var 3)) (.un .len (.var 0)))) (.t true) (.un .not (.var 5))) (.t true) (.un .not (.var 6)))
     (.ret (.cons (.t false) .nil))
     (.need (.t true) (.pre 10600 (.cons (.var 0) (.cons (.var 1) (.cons (.t false) (.cons (.var 3) (.cons (.n 0) .nil))))))
     (.lt (.app 10600 (.cons (.var 0) (.cons (.var 1) (.cons (.t false) (.cons (.var 3) (.cons (.n 0) .nil))))) 0) 3
     (.ite (.bin .eq (.var 7) (.n 0))
      (.ret (.cons (.var 8) .nil))
      (.need (.t true) (.pre 8 .nil)
      (.lt (.app 8 .nil 0) 1
      (.ret (.cons (.var 10) .nil))))))))))))))))
theorem e6 : (fnVT Try.prog (sgOf sg6) (ltOf lt6) S6 Try.f6 c6).slim (S6.ps.map fun p => p.2.length).sum [] = vt6 := by kernel_rfl

/-! ### 7 -/
def S7 : Sig := ⟨[(false, [(.sl 37 [(.int .i64), (.int .i64)])]), (false, [(.int .i64)]), (false, [(.int .i64)])], [(false, [.bool])]⟩
noncomputable def c7 : Code := Try.f7.body.getD .skip
theorem b7 : Try.f7.body = some c7 := body_some (by kernel_rfl)
theorem n7 : (Try.f7.name == "runtime.NumGoroutine") = false := by kernel_rfl
def sg7 : List (FuncId × Sig) := [(8, S8), (14, S14), (9, S9), (17, S17)]
def L7_0 : LoopSig := ⟨10700, [],
   ⟨[(.c (.x (.sl 37 [(.int .i64), (.int .i64)]) (.var 0))), .any, (.c (.x (.int .i64) (.var 1))), .any, .any, .any, .any, .any, .any, (.c (.x (.int .i64) (.var 2))), (.c (.x (.int .i64) (.var 3))), .any, .any, .any, .any, .any, .any, .any, .any, .any, .any, .any, .any, .any, .any, .any, .any, .any, .any, .any, .any, .any, .any, .any, .any, .any, .any, .any, .any, .any, .any, .any, .any, .any, .any, .any, .any, .any, .any, .any, .any, .any, .any, .any, .any, .any, .any, .any, .any, .any, .any, .any, .any, .any, .any, .any, .any, .any, .any, .any, .any, .any, .any, .any, .any, .any],
    []⟩,
   4, [2, 3], [45, 46, 47, 50, 51, 52, 53, 54, 55, 56, 9, 48, 49, 10], [(.exit 0)]⟩
def lt7 : List (Nat × LoopSig) := [(8, L7_0)]
theorem k7 : (Code.loops c7).length = 1 := by kernel_rfl
noncomputable def lb7_0 : Code := (Code.loops c7).getD 0 .skip
def rt7_0 : VT :=
  (.ite (.bin .lt (.var 3) (.var 1))
   (.need (.t true) (.c (.bin .le (.n 0) (.var 3)))
   (.need (.t true) (.c (.bin .lt (.var 3) (.un .len (.var 0))))
   (.ret (.cons (.n (-1)) (.cons (.bin (.add .i64) (.var 2) (.sel 0 (.var 0) (.var 3))) (.cons (.bin (.add .i64) (.var 3) (.n 1)) .nil))))))
   (.ret (.cons (.n 0) (.cons (.var 2) (.cons (.var 3) .nil)))))
theorem le7_0 : (loopVT Try.prog (sgOf sg7) (ltOf lt7) L7_0 lb7_0).slim L7_0.nv [] = rt7_0 := by kernel_rfl
theorem lf7_0 : (firstRegion lb7_0).bind (ltOf lt7) = some L7_0 := by kernel_rfl
theorem lk7_0 : (Code.loops lb7_0).length = 0 := by kernel_rfl
def vt7 : VT :=
  (.ite (.ite (.ite (.bin .lt (.n 64) (.un .len (.var 0))) (.t true) (.bin .lt (.var 2) (.n 1))) (.t true) (.bin .lt (.un .len (.var 0)) (.var 2)))
   (.need (.t true) (.pre 8 .nil)
   (.lt (.app 8 .nil 0) 1
   (.ret (.cons (.var 3) .nil))))
   (.need (.t true) (.pre 14 (.cons (.var 0) (.cons (.var 1) .nil)))
   (.lt (.app 14 (.cons (.var 0) (.cons (.var 1) .nil)) 0) 2
   (.ite (.un .not (.bin .eq (.var 4) (.n 0)))
    (.need (.bin .eq (.un .len (.var 3)) (.n 0)) (.pre 8 .nil)
    (.lt (.app 8 .nil 0) 1
    (.ret (.cons (.ite (.bin .eq (.un .len (.var 3)) (.n 0)) (.var 5) (.t false)) .nil))))
    (.need (.t true) (.pre 10700 (.cons (.var 0) (.cons (.var 2) (.cons (.bin (.mul .i64) (.bin (.sub .i64) (.var 2) (.n 1)) (.var 1)) (.cons (.n 0) .nil)))))
    (.lt (.app 10700 (.cons (.var 0) (.cons (.var 2) (.cons (.bin (.mul .i64) (.bin (.sub .i64) (.var 2) (.n 1)) (.var 1)) (.cons (.n 0) .nil)))) 0) 3
    (.need (.t true) (.pre 9 (.cons (.var 0) (.cons (.var 6) (.cons (.var 1) .nil))))
    (.lt (.app 9 (.cons (.var 0) (.cons (.var 6) (.cons (.var 1) .nil))) 0) 2
    (.need (.bin .eq (.var 9) (.n 0)) (.pre 17 (.cons (.var 3) .nil))
    (.lt (.app 17 (.cons (.var 3) .nil) 0) 1
    (.need (.bin .eq (.var 9) (.n 0)) (.pre 17 (.cons (.var 8) .nil))
    (.lt (.app 17 (.cons (.var 8) .nil) 0) 1
    (.need (.ite (.bin .eq (.var 9) (.n 0)) (.bin .le (.var 10) (.var 11)) (.t false)) (.pre 8 .nil)
    (.lt (.app 8 .nil 0) 1
    (.ret (.cons (.ite (.ite (.bin .eq (.var 9) (.n 0)) (.bin .le (.var 10) (.var 11)) (.t false)) (.var 12) (.t false)) .nil))))))))))))))))
theorem e7 : (fnVT Try.prog (sgOf sg7) (ltOf lt7) S7 Try.f7 c7).slim (S7.ps.map fun p => p.2.length).sum [] = vt7 := by kernel_rfl

end Go.Proofs.Ytnfndnaddnoiaaa.rv
