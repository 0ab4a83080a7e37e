/-
  The functions of the program as they are run: printed by program.
-/
import Derived.Test.YtdehhmcfhaeheaaRvUse
import Derived.Test.YtdehhmcfhaeheaaRvPfn
import Derived.Test.YtdehhmcfhaeheaaChecked
namespace Go.Proofs.Ytdehhmcfhaeheaa.rv
open Go.RV
set_option maxRecDepth 100000
theorem mixed : Try.prog.follows .mixedOrders = true := by kernel_rfl
/-! ### function values -/
/-! ### 22 -/
def S22 : Sig := ⟨[(false, [(.sl 3 [(.int .i64)])])], [(false, [.bool])], [], none⟩
noncomputable def c22 : Code := Try.f22.body.getD .skip
theorem b22 : Try.f22.body = some c22 := body_some (by kernel_rfl)
theorem n22 : (Try.f22.name == "runtime.NumGoroutine") = false := by kernel_rfl
def sg22 : List (FuncId × Sig) := []
def L22_0 : LoopSig := ⟨12200, [],
   ⟨[.any, .any, (.c (.x .bool (.var 0))), .any, .any, .any, .any, .any, (.c (.x (.sl 3 [(.int .i64)]) (.var 1))), (.c (.x (.int .i64) (.var 2))), (.c (.x (.int .i64) (.var 3))), .any, .any, .any, .any, .any, .any, .any, .any, .any, .any, .any, .any],
    []⟩,
   4, [0, 3], [11, 12, 13, 14, 3, 4, 15, 16, 17, 18, 19, 20, 21, 2, 22, 10], [.ret, (.exit 0)], []⟩
def lt22 : List (Nat × LoopSig) := [(4, L22_0)]
theorem k22 : (Code.loops c22).length = 1 := by kernel_rfl
noncomputable def lb22_0 : Code := (Code.loops c22).getD 0 .skip
def rt22_0 : VT :=
  (.ite (.bin .lt (.var 3) (.var 2))
   (.need (.t true) (.c (.bin .le (.n 0) (.var 3)))
   (.need (.t true) (.c (.bin .lt (.var 3) (.un .len (.var 1))))
   (.ite (.ite (.bin .lt (.sel 0 (.var 1) (.var 3)) (.n (-1))) (.t true) (.bin .le (.var 3) (.sel 0 (.var 1) (.var 3))))
    (.ret (.cons (.n 0) (.cons (.t false) (.cons (.var 3) .nil))))
    (.ret (.cons (.n (-1)) (.cons (.var 0) (.cons (.bin (.add .i64) (.var 3) (.n 1)) .nil)))))))
   (.ret (.cons (.n 1) (.cons (.var 0) (.cons (.var 3) .nil)))))
theorem le22_0 : (loopVT Try.prog (sgOf sg22) (ltOf lt22) L22_0 lb22_0).slim L22_0.nv [] = rt22_0 := by kernel_rfl
theorem lf22_0 : (firstRegion lb22_0).bind (ltOf lt22) = some L22_0 := by kernel_rfl
theorem lk22_0 : (Code.loops lb22_0).length = 0 := by kernel_rfl
def vt22 : VT :=
  (.ite (.bin .lt (.n 64) (.un .len (.var 0)))
   (.ret (.cons (.t false) .nil))
   (.need (.t true) (.pre 12200 (.cons (.t false) (.cons (.var 0) (.cons (.un .len (.var 0)) (.cons (.n 0) .nil)))))
   (.lt (.app 12200 (.cons (.t false) (.cons (.var 0) (.cons (.un .len (.var 0)) (.cons (.n 0) .nil)))) 0) 3
   (.ite (.bin .eq (.var 1) (.n 0))
    (.ret (.cons (.var 2) .nil))
    (.ret (.cons (.t true) .nil))))))
theorem e22 : (fnVT Try.prog (sgOf sg22) (ltOf lt22) S22 Try.f22 c22).slim (S22.ps.map fun p => p.2.length).sum [] = vt22 := by kernel_rfl

/-! ### 12 -/
def S12 : Sig := ⟨[(false, [(.sl 3 [(.int .i64)])])], [(false, [(.sl 3 [(.int .i64)])])], [], none⟩
noncomputable def c12 : Code := Try.f12.body.getD .skip
theorem b12 : Try.f12.body = some c12 := body_some (by kernel_rfl)
theorem n12 : (Try.f12.name == "runtime.NumGoroutine") = false := by kernel_rfl
def sg12 : List (FuncId × Sig) := [(22, S22)]
def L12_0 : LoopSig := ⟨11200, [],
   ⟨[(.c (.x (.sl 3 [(.int .i64)]) (.var 0))), .any, .any, (.c (.row 0 1)), (.c (.x (.int .i64) (.var 1))), .any, .any, .any, .any, .any, .any, .any, .any, .any, .any, .any, .any, .any, .any, .any, .any, .any, .any, .any, .any, .any, .any, .any, .any, .any, .any, .any, .any, .any, .any, .any, .any, .any, .any, .any, .any, .any, .any, .any],
    [some ⟨(.t true), (.row 3 [(.int .i64)] (.var 2) 1 false)⟩]⟩,
   3, [1, 2], [15, 16, 19, 20, 21, 22, 23, 24, 25, 26, 27, 28, 29, 30, 5, 31, 32, 33, 34, 35, 36, 37, 38, 39, 40, 41, 42, 17, 18, 4], [(.exit 0)], []⟩
def lt12 : List (Nat × LoopSig) := [(5, L12_0)]
theorem k12 : (Code.loops c12).length = 1 := by kernel_rfl
noncomputable def lb12_0 : Code := (Code.loops c12).getD 0 .skip
def rt12_0 : VT :=
  (.ite (.bin .le (.n 0) (.var 1))
   (.need (.t true) (.c (.bin .lt (.var 1) (.un .len (.var 2))))
   (.need (.t true) (.c (.bin .lt (.var 1) (.un .len (.var 0))))
   (.ite (.bin .le (.n 0) (.sel 0 (.var 0) (.var 1)))
    (.need (.t true) (.c (.bin .lt (.sel 0 (.var 0) (.var 1)) (.un .len (.upd 0 (.var 2) (.var 1) (.cons (.bin .max (.sel 0 (.var 2) (.var 1)) (.n 1)) .nil)))))
    (.need (.t true) (.c (.bin .lt (.var 1) (.un .len (.upd 0 (.var 2) (.var 1) (.cons (.bin .max (.sel 0 (.var 2) (.var 1)) (.n 1)) .nil)))))
    (.ret (.cons (.n (-1)) (.cons (.bin (.sub .i64) (.var 1) (.n 1)) (.cons (.upd 0 (.upd 0 (.var 2) (.var 1) (.cons (.bin .max (.sel 0 (.var 2) (.var 1)) (.n 1)) .nil)) (.sel 0 (.var 0) (.var 1)) (.cons (.bin (.add .i64) (.sel 0 (.upd 0 (.var 2) (.var 1) (.cons (.bin .max (.sel 0 (.var 2) (.var 1)) (.n 1)) .nil)) (.sel 0 (.var 0) (.var 1))) (.sel 0 (.upd 0 (.var 2) (.var 1) (.cons (.bin .max (.sel 0 (.var 2) (.var 1)) (.n 1)) .nil)) (.var 1))) .nil)) .nil))))))
    (.ret (.cons (.n (-1)) (.cons (.bin (.sub .i64) (.var 1) (.n 1)) (.cons (.upd 0 (.var 2) (.var 1) (.cons (.bin .max (.sel 0 (.var 2) (.var 1)) (.n 1)) .nil)) .nil)))))))
   (.ret (.cons (.n 0) (.cons (.var 1) (.cons (.var 2) .nil)))))
theorem le12_0 : (loopVT Try.prog (sgOf sg12) (ltOf lt12) L12_0 lb12_0).slim L12_0.nv [] = rt12_0 := by kernel_rfl
theorem lf12_0 : (firstRegion lb12_0).bind (ltOf lt12) = some L12_0 := by kernel_rfl
theorem lk12_0 : (Code.loops lb12_0).length = 0 := by kernel_rfl
def vt12 : VT :=
  (.need (.t true) (.pre 22 (.cons (.var 0) .nil))
  (.lt (.app 22 (.cons (.var 0) .nil) 0) 1
  (.ite (.un .not (.var 1))
   (.ret (.cons .lnil .nil))
   (.need (.t true) (.c (.bin .le (.un .len (.var 0)) (.n 17592186044416)))
   (.need (.t true) (.pre 11200 (.cons (.var 0) (.cons (.bin (.sub .i64) (.un .len (.var 0)) (.n 1)) (.cons (.rep (.un .len (.var 0)) (.cons (.n 0) .nil)) .nil))))
   (.lt (.app 11200 (.cons (.var 0) (.cons (.bin (.sub .i64) (.un .len (.var 0)) (.n 1)) (.cons (.rep (.un .len (.var 0)) (.cons (.n 0) .nil)) .nil))) 0) 3
   (.ret (.cons (.var 4) .nil))))))))
theorem e12 : (fnVT Try.prog (sgOf sg12) (ltOf lt12) S12 Try.f12 c12).slim (S12.ps.map fun p => p.2.length).sum [] = vt12 := by kernel_rfl

/-! ### 9 -/
def S9 : Sig := ⟨[(false, [(.sl 3 [(.int .i64)])])], [(false, [(.sl 3 [(.int .i64)])]), (false, [(.int .i64)])], [], none⟩
noncomputable def c9 : Code := Try.f9.body.getD .skip
theorem b9 : Try.f9.body = some c9 := body_some (by kernel_rfl)
theorem n9 : (Try.f9.name == "runtime.NumGoroutine") = false := by kernel_rfl
def P9_0 : LoopSig := ⟨16023000, [],
   ⟨[(.c (.ra 1 1 4 (.var 1) 0)), (.c (.x (.int .i64) (.var 2))), .any, .any, .any, .any, .any, .any, .any, .any, .any, .any, .any, .any, .any, .any, .any, .any, .any, .any, .any, .any, .any, .any, .any, .any, .any, .any, .any, .any, .any, .any, .any, .any, .any, .any, .any, .any, .any, .any, .any, .any, .any, .any, .any, .any, .any, .any, .any, .any, .any, .any, .any, .any, .any, .any],
    [none, some ⟨(.t true), (.row 42 [(.int .i64), (.int .i64), (.int .i64), (.int .i64)] (.var 0) 1 false)⟩]⟩,
   3, [0], [0, 1, 2, 3, 4, 5, 6, 7, 8, 9, 10, 11, 12, 13, 14, 15, 16, 17, 18, 19, 20, 21, 22, 23, 24, 25, 26, 27, 28, 29, 30, 31, 32, 33, 34, 35, 36, 37, 38, 39, 40, 41, 42, 43, 44, 45, 46, 47, 48, 49, 50, 51, 52, 53, 54, 55], [], []⟩
def P9_1 : LoopSig := ⟨16023001, [],
   ⟨[(.c (.ptr 0 0)), (.c (.x (.int .i64) (.var 4))), .any, .any, .any, .any, .any, .any, .any, .any, .any, .any, .any, .any, .any, .any, .any, .any, .any, .any, .any, .any, .any, .any, .any, .any, .any, .any, .any, .any, .any, .any, .any, .any, .any, .any, .any, .any, .any, .any, .any, .any, .any, .any, .any, .any, .any, .any, .any, .any, .any, .any, .any, .any, .any, .any],
    [some ⟨(.t true), (.box 42 [(.x (.int .i64) (.var 0)), (.x (.int .i64) (.var 1)), (.x (.int .i64) (.var 2)), (.x (.int .i64) (.var 3))] false)⟩]⟩,
   5, [3], [0, 1, 2, 3, 4, 5, 6, 7, 8, 9, 10, 11, 12, 13, 14, 15, 16, 17, 18, 19, 20, 21, 22, 23, 24, 25, 26, 27, 28, 29, 30, 31, 32, 33, 34, 35, 36, 37, 38, 39, 40, 41, 42, 43, 44, 45, 46, 47, 48, 49, 50, 51, 52, 53, 54, 55], [], []⟩
def Sp9_23 : Sig := ⟨[(false, []), (false, [])], [(true, [(.int .i64), (.int .i64), (.int .i64), (.int .i64)])], [(P9_0, 1), (P9_1, 4)], none⟩
def sg9 : List (FuncId × Sig) := [(22, S22), (12, S12), (23, Sp9_23), (16023000, ⟨[], [], [], some 6⟩), (16023001, ⟨[], [], [], some 6⟩)]
noncomputable def cp9_0 : Code := Try.f23.body.getD .skip
theorem bp9_0 : Try.f23.body = some cp9_0 := body_some (by kernel_rfl)
theorem np9_0 : (Try.f23.name == "runtime.NumGoroutine") = false := by kernel_rfl
def sgp9_0 : List (FuncId × Sig) := []
def ltp9_0 : List (Nat × LoopSig) := []
theorem kp9_0 : (Code.loops cp9_0).length = 0 := by kernel_rfl
def pv9_0 : VT :=
  (.need (.t true) (.c (.un .not (.bin .eq (.sel 2 (.var 0) (.var 1)) (.n 0))))
  (.need (.t true) (.c (.un .not (.bin .eq (.sel 2 (.upd 3 (.var 0) (.var 1) (.cons (.bin (.add .i64) (.sel 3 (.var 0) (.var 1)) (.var 2)) .nil)) (.var 1)) (.n 0))))
  (.ret (.cons (.n 0) (.cons (.upd 3 (.var 0) (.var 1) (.cons (.bin (.add .i64) (.sel 3 (.var 0) (.var 1)) (.var 2)) .nil)) (.cons (.bin (.add .i64) (.sel 0 (.var 0) (.var 1)) (.bin (.quo .i64) (.bin (.mul .i64) (.sel 3 (.var 0) (.var 1)) (.sel 1 (.var 0) (.var 1))) (.sel 2 (.var 0) (.var 1)))) (.cons (.bin (.sub .i64) (.bin (.add .i64) (.sel 0 (.upd 3 (.var 0) (.var 1) (.cons (.bin (.add .i64) (.sel 3 (.var 0) (.var 1)) (.var 2)) .nil)) (.var 1)) (.bin (.quo .i64) (.bin (.mul .i64) (.sel 3 (.upd 3 (.var 0) (.var 1) (.cons (.bin (.add .i64) (.sel 3 (.var 0) (.var 1)) (.var 2)) .nil)) (.var 1)) (.sel 1 (.upd 3 (.var 0) (.var 1) (.cons (.bin (.add .i64) (.sel 3 (.var 0) (.var 1)) (.var 2)) .nil)) (.var 1))) (.sel 2 (.upd 3 (.var 0) (.var 1) (.cons (.bin (.add .i64) (.sel 3 (.var 0) (.var 1)) (.var 2)) .nil)) (.var 1)))) (.bin (.add .i64) (.sel 0 (.var 0) (.var 1)) (.bin (.quo .i64) (.bin (.mul .i64) (.sel 3 (.var 0) (.var 1)) (.sel 1 (.var 0) (.var 1))) (.sel 2 (.var 0) (.var 1))))) (.cons (.n 0) (.cons (.n 0) .nil)))))))))
theorem pe9_0 : (procVT Try.prog (sgOf sgp9_0) (ltOf ltp9_0) Sp9_23 P9_0 1 Try.f23 cp9_0).slim P9_0.nv [] = pv9_0 := by kernel_rfl
theorem pp9_0 : P9_0.head.plain = true := by kernel_rfl
theorem pl9_0 : P9_0.head.slots.length = Try.f23.ntmps := by kernel_rfl
noncomputable def cp9_1 : Code := Try.f23.body.getD .skip
theorem bp9_1 : Try.f23.body = some cp9_1 := body_some (by kernel_rfl)
theorem np9_1 : (Try.f23.name == "runtime.NumGoroutine") = false := by kernel_rfl
def sgp9_1 : List (FuncId × Sig) := []
def ltp9_1 : List (Nat × LoopSig) := []
theorem kp9_1 : (Code.loops cp9_1).length = 0 := by kernel_rfl
def pv9_1 : VT :=
  (.need (.t true) (.c (.un .not (.bin .eq (.var 2) (.n 0))))
  (.ret (.cons (.n 0) (.cons (.bin (.add .i64) (.var 3) (.var 4)) (.cons (.bin (.add .i64) (.var 0) (.bin (.quo .i64) (.bin (.mul .i64) (.var 3) (.var 1)) (.var 2))) (.cons (.bin (.sub .i64) (.bin (.add .i64) (.var 0) (.bin (.quo .i64) (.bin (.mul .i64) (.bin (.add .i64) (.var 3) (.var 4)) (.var 1)) (.var 2))) (.bin (.add .i64) (.var 0) (.bin (.quo .i64) (.bin (.mul .i64) (.var 3) (.var 1)) (.var 2)))) (.cons (.n 0) (.cons (.n 0) .nil))))))))
theorem pe9_1 : (procVT Try.prog (sgOf sgp9_1) (ltOf ltp9_1) Sp9_23 P9_1 4 Try.f23 cp9_1).slim P9_1.nv [] = pv9_1 := by kernel_rfl
theorem pp9_1 : P9_1.head.plain = true := by kernel_rfl
theorem pl9_1 : P9_1.head.slots.length = Try.f23.ntmps := by kernel_rfl
def L9_0 : LoopSig := ⟨10900, [],
   ⟨[.any, .any, .any, .any, (.c (.x (.sl 3 [(.int .i64)]) (.var 0))), (.c (.ptr 0 0)), .any, .any, .any, .any, .any, .any, .any, .any, .any, .any, .any, .any, .any, .any, .any, .any, .any, (.c (.x (.sl 3 [(.int .i64)]) (.var 1))), (.c (.x (.int .i64) (.var 2))), (.c (.x (.int .i64) (.var 3))), .any, .any, .any, .any, .any, .any, .any, .any, .any, .any, .any, .any, .any, .any, .any, .any, .any, .any, .any, .any, .any, .any, .any, .any, .any, .any, .any, .any, .any, .any, .any, .any, .any, .any, .any, .any, .any, .any, .any, .any, .any, .any, .any, .any, .any, .any, .any, .any, .any, .any, .any, .any, .any, .any, .any, .any, .any, .any, .any, .any, .any, .any, .any, .any, .any],
    [some ⟨(.t true), (.box 42 [(.x (.int .i64) (.var 4)), (.x (.int .i64) (.var 5)), (.x (.int .i64) (.var 6)), (.x (.int .i64) (.var 7))] false)⟩, none]⟩,
   8, [3, 6], [26, 27, 28, 29, 7, 8, 30, 31, 32, 33, 34, 35, 36, 37, 38, 39, 40, 41, 42, 43, 25], [(.exit 0)], []⟩
def L9_1 : LoopSig := ⟨10901, [(9, none, 3)],
   ⟨[.any, .any, .any, .any, (.c (.x (.sl 3 [(.int .i64)]) (.var 0))), (.c (.ptr 0 0)), (.c (.row 1 1)), .any, .any, (.c (.row 2 1)), .any, .any, .any, .any, .any, .any, .any, .any, .any, .any, .any, .any, .any, .any, .any, .any, .any, .any, .any, .any, .any, .any, .any, .any, .any, .any, .any, .any, .any, .any, .any, .any, .any, .any, (.c (.x (.sl 3 [(.int .i64)]) (.var 1))), (.c (.x (.int .i64) (.var 2))), (.c (.x (.int .i64) (.var 3))), .any, .any, .any, .any, .any, .any, .any, .any, .any, .any, .any, .any, .any, .any, .any, .any, .any, .any, .any, .any, .any, .any, .any, .any, .any, .any, .any, .any, .any, .any, .any, .any, .any, .any, .any, .any, .any, .any, .any, .any, .any, .any, .any, .any],
    [some ⟨(.t true), (.box 42 [(.x (.int .i64) (.var 4)), (.x (.int .i64) (.var 5)), (.x (.int .i64) (.var 6)), (.x (.int .i64) (.var 7))] false)⟩, some ⟨(.t true), (.row 42 [(.int .i64), (.int .i64), (.int .i64), (.int .i64)] (.var 8) 1 false)⟩, some ⟨(.t true), (.row 3 [(.int .i64)] (.var 9) 1 false)⟩]⟩,
   10, [3, 7, 8, 9], [47, 48, 49, 50, 10, 11, 51, 12, 52, 53, 54, 55, 56, 57, 58, 59, 60, 61, 62, 63, 64, 65, 66, 67, 68, 69, 70, 71, 72, 73, 74, 75, 76, 77, 78, 79, 80, 81, 82, 83, 84, 85, 86, 87, 88, 9, 89, 46], [(.exit 2)], [9]⟩
def lt9 : List (Nat × LoopSig) := [(7, L9_0), (14, L9_1)]
theorem k9 : (Code.loops c9).length = 2 := by kernel_rfl
noncomputable def lb9_0 : Code := (Code.loops c9).getD 0 .skip
noncomputable def lb9_1 : Code := (Code.loops c9).getD 1 .skip
def rt9_0 : VT :=
  (.ite (.bin .lt (.var 3) (.var 2))
   (.need (.t true) (.c (.bin .le (.n 0) (.var 3)))
   (.need (.t true) (.c (.bin .lt (.var 3) (.un .len (.var 1))))
   (.ite (.bin .lt (.sel 0 (.var 1) (.var 3)) (.n 0))
    (.need (.t true) (.c (.bin .lt (.var 3) (.un .len (.var 0))))
    (.ret (.cons (.n (-1)) (.cons (.bin (.add .i64) (.var 3) (.n 1)) (.cons (.bin (.add .i64) (.var 6) (.sel 0 (.var 0) (.var 3))) .nil)))))
    (.ret (.cons (.n (-1)) (.cons (.bin (.add .i64) (.var 3) (.n 1)) (.cons (.var 6) .nil)))))))
   (.ret (.cons (.n 0) (.cons (.var 3) (.cons (.var 6) .nil)))))
theorem le9_0 : (loopVT Try.prog (sgOf sg9) (ltOf lt9) L9_0 lb9_0).slim L9_0.nv [] = rt9_0 := by kernel_rfl
theorem lf9_0 : (firstRegion lb9_0).bind (ltOf lt9) = some L9_0 := by kernel_rfl
theorem lk9_0 : (Code.loops lb9_0).length = 0 := by kernel_rfl
def rt9_1 : VT :=
  (.ite (.bin .lt (.var 3) (.var 2))
   (.need (.t true) (.c (.bin .le (.n 0) (.var 3)))
   (.need (.t true) (.c (.bin .lt (.var 3) (.un .len (.var 1))))
   (.ite (.bin .le (.n 0) (.sel 0 (.var 1) (.var 3)))
    (.need (.t true) (.c (.bin .lt (.sel 0 (.var 1) (.var 3)) (.un .len (.var 8))))
    (.need (.t true) (.c (.bin .lt (.var 3) (.un .len (.var 0))))
    (.need (.t true) (.pre 16023000 (.cons (.var 8) (.cons (.sel 0 (.var 1) (.var 3)) (.cons (.sel 0 (.var 0) (.var 3)) .nil))))
    (.lt (.app 16023000 (.cons (.var 8) (.cons (.sel 0 (.var 1) (.var 3)) (.cons (.sel 0 (.var 0) (.var 3)) .nil))) 0) 6
    (.need (.t true) (.c (.bin .lt (.var 3) (.un .len (.var 11))))
    (.need (.t true) (.c (.bin .lt (.var 3) (.un .len (.upd 0 (.var 11) (.var 3) (.cons (.var 12) (.cons (.var 13) (.cons (.var 14) (.cons (.var 15) .nil))))))))
    (.need (.t true) (.c (.bin .lt (.var 3) (.un .len (.upd 2 (.upd 0 (.var 11) (.var 3) (.cons (.var 12) (.cons (.var 13) (.cons (.var 14) (.cons (.var 15) .nil))))) (.var 3) (.cons (.sel 0 (.var 0) (.var 3)) .nil)))))
    (.need (.t true) (.c (.bin .le (.un .len (.bin .cat (.var 9) (.lcons (.cons (.bin (.add .i64) (.sel 0 (.upd 2 (.upd 0 (.var 11) (.var 3) (.cons (.var 12) (.cons (.var 13) (.cons (.var 14) (.cons (.var 15) .nil))))) (.var 3) (.cons (.sel 0 (.var 0) (.var 3)) .nil)) (.var 3)) (.bin (.quo .i64) (.sel 1 (.upd 2 (.upd 0 (.var 11) (.var 3) (.cons (.var 12) (.cons (.var 13) (.cons (.var 14) (.cons (.var 15) .nil))))) (.var 3) (.cons (.sel 0 (.var 0) (.var 3)) .nil)) (.var 3)) (.n 2))) .nil) .lnil))) (.n 17592186044416)))
    (.ret (.cons (.n (-1)) (.cons (.bin (.add .i64) (.var 3) (.n 1)) (.cons (.var 7) (.cons (.upd 2 (.upd 0 (.var 11) (.var 3) (.cons (.var 12) (.cons (.var 13) (.cons (.var 14) (.cons (.var 15) .nil))))) (.var 3) (.cons (.sel 0 (.var 0) (.var 3)) .nil)) (.cons (.bin .cat (.var 9) (.lcons (.cons (.bin (.add .i64) (.sel 0 (.upd 2 (.upd 0 (.var 11) (.var 3) (.cons (.var 12) (.cons (.var 13) (.cons (.var 14) (.cons (.var 15) .nil))))) (.var 3) (.cons (.sel 0 (.var 0) (.var 3)) .nil)) (.var 3)) (.bin (.quo .i64) (.sel 1 (.upd 2 (.upd 0 (.var 11) (.var 3) (.cons (.var 12) (.cons (.var 13) (.cons (.var 14) (.cons (.var 15) .nil))))) (.var 3) (.cons (.sel 0 (.var 0) (.var 3)) .nil)) (.var 3)) (.n 2))) .nil) .lnil)) .nil))))))))))))))
    (.need (.t true) (.c (.bin .lt (.var 3) (.un .len (.var 0))))
    (.need (.t true) (.pre 16023001 (.cons (.var 4) (.cons (.var 5) (.cons (.var 6) (.cons (.var 7) (.cons (.sel 0 (.var 0) (.var 3)) .nil))))))
    (.lt (.app 16023001 (.cons (.var 4) (.cons (.var 5) (.cons (.var 6) (.cons (.var 7) (.cons (.sel 0 (.var 0) (.var 3)) .nil))))) 0) 6
    (.need (.t true) (.c (.bin .lt (.var 3) (.un .len (.var 8))))
    (.need (.t true) (.c (.bin .lt (.var 3) (.un .len (.upd 0 (.var 8) (.var 3) (.cons (.var 12) (.cons (.var 13) (.cons (.var 14) (.cons (.var 15) .nil))))))))
    (.need (.t true) (.c (.bin .lt (.var 3) (.un .len (.upd 2 (.upd 0 (.var 8) (.var 3) (.cons (.var 12) (.cons (.var 13) (.cons (.var 14) (.cons (.var 15) .nil))))) (.var 3) (.cons (.sel 0 (.var 0) (.var 3)) .nil)))))
    (.need (.t true) (.c (.bin .le (.un .len (.bin .cat (.var 9) (.lcons (.cons (.bin (.add .i64) (.sel 0 (.upd 2 (.upd 0 (.var 8) (.var 3) (.cons (.var 12) (.cons (.var 13) (.cons (.var 14) (.cons (.var 15) .nil))))) (.var 3) (.cons (.sel 0 (.var 0) (.var 3)) .nil)) (.var 3)) (.bin (.quo .i64) (.sel 1 (.upd 2 (.upd 0 (.var 8) (.var 3) (.cons (.var 12) (.cons (.var 13) (.cons (.var 14) (.cons (.var 15) .nil))))) (.var 3) (.cons (.sel 0 (.var 0) (.var 3)) .nil)) (.var 3)) (.n 2))) .nil) .lnil))) (.n 17592186044416)))
    (.ret (.cons (.n (-1)) (.cons (.bin (.add .i64) (.var 3) (.n 1)) (.cons (.var 11) (.cons (.upd 2 (.upd 0 (.var 8) (.var 3) (.cons (.var 12) (.cons (.var 13) (.cons (.var 14) (.cons (.var 15) .nil))))) (.var 3) (.cons (.sel 0 (.var 0) (.var 3)) .nil)) (.cons (.bin .cat (.var 9) (.lcons (.cons (.bin (.add .i64) (.sel 0 (.upd 2 (.upd 0 (.var 8) (.var 3) (.cons (.var 12) (.cons (.var 13) (.cons (.var 14) (.cons (.var 15) .nil))))) (.var 3) (.cons (.sel 0 (.var 0) (.var 3)) .nil)) (.var 3)) (.bin (.quo .i64) (.sel 1 (.upd 2 (.upd 0 (.var 8) (.var 3) (.cons (.var 12) (.cons (.var 13) (.cons (.var 14) (.cons (.var 15) .nil))))) (.var 3) (.cons (.sel 0 (.var 0) (.var 3)) .nil)) (.var 3)) (.n 2))) .nil) .lnil)) .nil))))))))))))))))
   (.ret (.cons (.n 0) (.cons (.var 3) (.cons (.var 7) (.cons (.var 8) (.cons (.var 9) .nil)))))))
theorem le9_1 : (loopVT Try.prog (sgOf sg9) (ltOf lt9) L9_1 lb9_1).slim L9_1.nv [] = rt9_1 := by kernel_rfl
theorem lf9_1 : (firstRegion lb9_1).bind (ltOf lt9) = some L9_1 := by kernel_rfl
theorem lk9_1 : (Code.loops lb9_1).length = 0 := by kernel_rfl
def vt9 : VT :=
  (.need (.t true) (.pre 22 (.cons (.var 0) .nil))
  (.lt (.app 22 (.cons (.var 0) .nil) 0) 1
  (.ite (.un .not (.var 1))
   (.ret (.cons .lnil (.cons (.n 1) .nil)))
   (.need (.t true) (.pre 12 (.cons (.var 0) .nil))
   (.lt (.app 12 (.cons (.var 0) .nil) 0) 1
   (.need (.t true) (.c (.bin .le (.un .len (.var 0)) (.n 4398046511104)))
   (.need (.t true) (.pre 10900 (.cons (.var 2) (.cons (.var 0) (.cons (.un .len (.var 0)) (.cons (.n 0) (.cons (.n 0) (.cons (.n 360) (.cons (.n 0) (.cons (.n 0) .nil)))))))))
   (.lt (.app 10900 (.cons (.var 2) (.cons (.var 0) (.cons (.un .len (.var 0)) (.cons (.n 0) (.cons (.n 0) (.cons (.n 360) (.cons (.n 0) (.cons (.n 0) .nil)))))))) 0) 3
   (.need (.t true) (.pre 10901 (.cons (.var 2) (.cons (.var 0) (.cons (.un .len (.var 0)) (.cons (.n 0) (.cons (.n 0) (.cons (.n 360) (.cons (.var 5) (.cons (.n 0) (.cons (.rep (.un .len (.var 0)) (.cons (.n 0) (.cons (.n 0) (.cons (.n 0) (.cons (.n 0) .nil))))) (.cons .lnil .nil)))))))))))
   (.lt (.app 10901 (.cons (.var 2) (.cons (.var 0) (.cons (.un .len (.var 0)) (.cons (.n 0) (.cons (.n 0) (.cons (.n 360) (.cons (.var 5) (.cons (.n 0) (.cons (.rep (.un .len (.var 0)) (.cons (.n 0) (.cons (.n 0) (.cons (.n 0) (.cons (.n 0) .nil))))) (.cons .lnil .nil)))))))))) 0) 5
   (.ret (.cons (.var 10) (.cons (.n 0) .nil)))))))))))))
theorem e9 : (fnVT Try.prog (sgOf sg9) (ltOf lt9) S9 Try.f9 c9).slim (S9.ps.map fun p => p.2.length).sum [] = vt9 := by kernel_rfl

/-! ### 25 -/
def S25 : Sig := ⟨[(false, [(.sl 3 [(.int .i64)])])], [(false, [(.sl 3 [(.int .i64)])])], [], none⟩
noncomputable def c25 : Code := Try.f25.body.getD .skip
theorem b25 : Try.f25.body = some c25 := body_some (by kernel_rfl)
theorem n25 : (Try.f25.name == "runtime.NumGoroutine") = false := by kernel_rfl
def sg25 : List (FuncId × Sig) := []
def L25_0 : LoopSig := ⟨12500, [],
   ⟨[.any, .any, .any, (.c (.x (.int .i64) (.var 0))), .any, .any, .any, .any, .any, (.c (.x (.sl 3 [(.int .i64)]) (.var 1))), (.c (.x (.int .i64) (.var 2))), (.c (.x (.int .i64) (.var 3))), .any, .any, .any, .any, .any, .any, .any, .any, .any, .any, .any, .any, .any, .any, .any, .any, .any, .any, .any, .any, .any, .any, .any, .any, .any, .any, .any, .any, .any, .any, .any, .any, .any, .any, .any, .any, .any],
    []⟩,
   4, [0, 3], [12, 13, 14, 5, 15, 16, 17, 18, 3, 19, 11], [(.exit 0)], []⟩
def L25_1 : LoopSig := ⟨12501, [],
   ⟨[.any, .any, .any, (.c (.x (.int .i64) (.var 0))), .any, .any, (.c (.row 0 1)), .any, .any, .any, .any, .any, .any, .any, .any, .any, .any, .any, .any, .any, .any, .any, .any, (.c (.x (.sl 3 [(.int .i64)]) (.var 1))), (.c (.x (.int .i64) (.var 2))), (.c (.x (.int .i64) (.var 3))), .any, .any, .any, .any, .any, .any, .any, .any, .any, .any, .any, .any, .any, .any, .any, .any, .any, .any, .any, .any, .any, .any, .any],
    [some ⟨(.t true), (.row 3 [(.int .i64)] (.var 4) 1 false)⟩]⟩,
   5, [3, 4], [26, 27, 28, 29, 7, 8, 31, 32, 30, 33, 34, 35, 36, 37, 38, 39, 40, 42, 43, 41, 44, 45, 46, 47, 25], [(.exit 2)], []⟩
def lt25 : List (Nat × LoopSig) := [(3, L25_0), (10, L25_1)]
theorem k25 : (Code.loops c25).length = 2 := by kernel_rfl
noncomputable def lb25_0 : Code := (Code.loops c25).getD 0 .skip
noncomputable def lb25_1 : Code := (Code.loops c25).getD 1 .skip
def rt25_0 : VT :=
  (.ite (.bin .lt (.var 3) (.var 2))
   (.need (.t true) (.c (.bin .le (.n 0) (.var 3)))
   (.need (.t true) (.c (.bin .lt (.var 3) (.un .len (.var 1))))
   (.ite (.bin .lt (.sel 0 (.var 1) (.var 3)) (.n 0))
    (.ret (.cons (.n (-1)) (.cons (.bin (.add .i64) (.var 0) (.n 1)) (.cons (.bin (.add .i64) (.var 3) (.n 1)) .nil))))
    (.ret (.cons (.n (-1)) (.cons (.var 0) (.cons (.bin (.add .i64) (.var 3) (.n 1)) .nil)))))))
   (.ret (.cons (.n 0) (.cons (.var 0) (.cons (.var 3) .nil)))))
theorem le25_0 : (loopVT Try.prog (sgOf sg25) (ltOf lt25) L25_0 lb25_0).slim L25_0.nv [] = rt25_0 := by kernel_rfl
theorem lf25_0 : (firstRegion lb25_0).bind (ltOf lt25) = some L25_0 := by kernel_rfl
theorem lk25_0 : (Code.loops lb25_0).length = 0 := by kernel_rfl
def rt25_1 : VT :=
  (.ite (.bin .lt (.var 3) (.var 2))
   (.need (.t true) (.c (.bin .le (.n 0) (.var 3)))
   (.need (.t true) (.c (.bin .lt (.var 3) (.un .len (.var 1))))
   (.ite (.bin .le (.n 0) (.sel 0 (.var 1) (.var 3)))
    (.need (.t true) (.c (.bin .lt (.sel 0 (.var 1) (.var 3)) (.un .len (.var 4))))
    (.need (.t true) (.c (.bin .lt (.var 3) (.un .len (.var 4))))
    (.ret (.cons (.n (-1)) (.cons (.bin (.add .i64) (.var 3) (.n 1)) (.cons (.upd 0 (.var 4) (.var 3) (.cons (.bin (.add .i64) (.sel 0 (.var 4) (.sel 0 (.var 1) (.var 3))) (.n 1)) .nil)) .nil))))))
    (.ite (.bin .lt (.n 1) (.var 0))
     (.need (.t true) (.c (.bin .lt (.var 3) (.un .len (.var 4))))
     (.ret (.cons (.n (-1)) (.cons (.bin (.add .i64) (.var 3) (.n 1)) (.cons (.upd 0 (.var 4) (.var 3) (.cons (.n 1) .nil)) .nil)))))
     (.ret (.cons (.n (-1)) (.cons (.bin (.add .i64) (.var 3) (.n 1)) (.cons (.var 4) .nil))))))))
   (.ret (.cons (.n 0) (.cons (.var 3) (.cons (.var 4) .nil)))))
theorem le25_1 : (loopVT Try.prog (sgOf sg25) (ltOf lt25) L25_1 lb25_1).slim L25_1.nv [] = rt25_1 := by kernel_rfl
theorem lf25_1 : (firstRegion lb25_1).bind (ltOf lt25) = some L25_1 := by kernel_rfl
theorem lk25_1 : (Code.loops lb25_1).length = 0 := by kernel_rfl
def vt25 : VT :=
  (.need (.t true) (.pre 12500 (.cons (.n 0) (.cons (.var 0) (.cons (.un .len (.var 0)) (.cons (.n 0) .nil)))))
  (.lt (.app 12500 (.cons (.n 0) (.cons (.var 0) (.cons (.un .len (.var 0)) (.cons (.n 0) .nil)))) 0) 3
  (.need (.t true) (.c (.bin .le (.un .len (.var 0)) (.n 17592186044416)))
  (.need (.t true) (.pre 12501 (.cons (.var 2) (.cons (.var 0) (.cons (.un .len (.var 0)) (.cons (.n 0) (.cons (.rep (.un .len (.var 0)) (.cons (.n 0) .nil)) .nil))))))
  (.lt (.app 12501 (.cons (.var 2) (.cons (.var 0) (.cons (.un .len (.var 0)) (.cons (.n 0) (.cons (.rep (.un .len (.var 0)) (.cons (.n 0) .nil)) .nil))))) 0) 3
  (.ret (.cons (.var 6) .nil)))))))
theorem e25 : (fnVT Try.prog (sgOf sg25) (ltOf lt25) S25 Try.f25 c25).slim (S25.ps.map fun p => p.2.length).sum [] = vt25 := by kernel_rfl

/-! ### 26 -/
def S26 : Sig := ⟨[(false, [(.sl 3 [(.int .i64)])])], [(false, [(.int .i64)])], [], none⟩
noncomputable def c26 : Code := Try.f26.body.getD .skip
theorem b26 : Try.f26.body = some c26 := body_some (by kernel_rfl)
theorem n26 : (Try.f26.name == "runtime.NumGoroutine") = false := by kernel_rfl
def sg26 : List (FuncId × Sig) := []
def L26_0 : LoopSig := ⟨12600, [],
   ⟨[(.c (.x (.sl 3 [(.int .i64)]) (.var 0))), .any, .any, (.c (.x (.int .i64) (.var 1))), (.c (.x (.int .i64) (.var 2))), .any, .any, .any, .any, .any, .any, .any, .any, .any, .any, .any, .any, .any, .any, .any, .any, .any, .any, .any, .any],
    []⟩,
   3, [1, 2], [12, 13, 14, 15, 18, 19, 20, 21, 22, 23, 3, 16, 17, 4], [(.exit 0)], []⟩
def lt26 : List (Nat × LoopSig) := [(5, L26_0)]
theorem k26 : (Code.loops c26).length = 1 := by kernel_rfl
noncomputable def lb26_0 : Code := (Code.loops c26).getD 0 .skip
def rt26_0 : VT :=
  (.ite (.bin .lt (.var 2) (.un .len (.var 0)))
   (.need (.t true) (.c (.bin .le (.n 0) (.var 2)))
   (.ret (.cons (.n (-1)) (.cons (.bin .max (.var 1) (.sel 0 (.var 0) (.var 2))) (.cons (.bin (.add .i64) (.var 2) (.n 1)) .nil)))))
   (.ret (.cons (.n 0) (.cons (.var 1) (.cons (.var 2) .nil)))))
theorem le26_0 : (loopVT Try.prog (sgOf sg26) (ltOf lt26) L26_0 lb26_0).slim L26_0.nv [] = rt26_0 := by kernel_rfl
theorem lf26_0 : (firstRegion lb26_0).bind (ltOf lt26) = some L26_0 := by kernel_rfl
theorem lk26_0 : (Code.loops lb26_0).length = 0 := by kernel_rfl
def vt26 : VT :=
  (.ite (.bin .lt (.un .len (.var 0)) (.n 1))
   .bad
   (.need (.t true) (.c (.bin .lt (.n 0) (.un .len (.var 0))))
   (.need (.t true) (.pre 12600 (.cons (.var 0) (.cons (.sel 0 (.var 0) (.n 0)) (.cons (.n 1) .nil))))
   (.lt (.app 12600 (.cons (.var 0) (.cons (.sel 0 (.var 0) (.n 0)) (.cons (.n 1) .nil))) 0) 3
   (.ret (.cons (.var 2) .nil))))))
theorem e26 : (fnVT Try.prog (sgOf sg26) (ltOf lt26) S26 Try.f26 c26).slim (S26.ps.map fun p => p.2.length).sum [] = vt26 := by kernel_rfl

/-! ### 29 -/
def S29 : Sig := ⟨[(true, [(.int .i64), (.int .i64)])], [(false, [.bool])], [], none⟩
noncomputable def c29 : Code := Try.f29.body.getD .skip
theorem b29 : Try.f29.body = some c29 := body_some (by kernel_rfl)
theorem n29 : (Try.f29.name == "runtime.NumGoroutine") = false := by kernel_rfl
def sg29 : List (FuncId × Sig) := []
def lt29 : List (Nat × LoopSig) := []
theorem k29 : (Code.loops c29).length = 0 := by kernel_rfl
def vt29 : VT :=
  (.ret (.cons (.ite (.ite (.ite (.bin .le (.n (-268435456)) (.var 0)) (.bin .le (.var 0) (.n 268435456)) (.t false)) (.bin .le (.n (-268435456)) (.var 1)) (.t false)) (.bin .le (.var 1) (.n 268435456)) (.t false)) .nil))
theorem e29 : (fnVT Try.prog (sgOf sg29) (ltOf lt29) S29 Try.f29 c29).slim (S29.ps.map fun p => p.2.length).sum [] = vt29 := by kernel_rfl
def T29 : FuncId → List D → List D := tabOf []
def fn29 (ρ : List D) : List D := vt29.val T29 ρ
theorem m29 : Meets Try.prog 29 S29 (fun _ => True) fn29 := meets_easy (sgl := sg29) (Φ := T29) mixed ((fun _ h => nomatch h)) Try.func29 b29 n29 k29 e29 (by kernel_rfl)

/-! ### 38 -/
def S38 : Sig := ⟨[(false, [(.int .i64)])], [(false, [(.int .i64)])], [], none⟩
noncomputable def c38 : Code := Try.f38.body.getD .skip
theorem b38 : Try.f38.body = some c38 := body_some (by kernel_rfl)
theorem n38 : (Try.f38.name == "runtime.NumGoroutine") = false := by kernel_rfl
def sg38 : List (FuncId × Sig) := []
def lt38 : List (Nat × LoopSig) := []
theorem k38 : (Code.loops c38).length = 0 := by kernel_rfl
def vt38 : VT :=
  (.ite (.bin .lt (.bin (.rem .i64) (.var 0) (.n 360)) (.n 0))
   (.ret (.cons (.bin (.add .i64) (.bin (.rem .i64) (.var 0) (.n 360)) (.n 360)) .nil))
   (.ret (.cons (.bin (.rem .i64) (.var 0) (.n 360)) .nil)))
theorem e38 : (fnVT Try.prog (sgOf sg38) (ltOf lt38) S38 Try.f38 c38).slim (S38.ps.map fun p => p.2.length).sum [] = vt38 := by kernel_rfl
def T38 : FuncId → List D → List D := tabOf []
def fn38 (ρ : List D) : List D := vt38.val T38 ρ
theorem m38 : Meets Try.prog 38 S38 (fun _ => True) fn38 := meets_easy (sgl := sg38) (Φ := T38) mixed ((fun _ h => nomatch h)) Try.func38 b38 n38 k38 e38 (by kernel_rfl)

/-! ### 41 -/
def S41 : Sig := ⟨[], [(true, [(.int .i64), (.int .i64), (.int .i64), (.int .i64), (.int .i64), (.int .i64), (.int .i64), (.int .i64), (.int .i64), (.int .i64), (.int .i64), (.int .i64), (.int .i64), (.int .i64), (.int .i64), (.int .i64), (.int .i64), (.int .i64), (.int .i64), (.int .i64), (.int .i64), (.int .i64), (.int .i64), (.int .i64), (.int .i64), (.int .i64), (.int .i64), (.int .i64), (.int .i64), (.int .i64), (.int .i64), (.int .i64), (.int .i64), (.int .i64), (.int .i64), (.int .i64), (.int .i64), (.int .i64), (.int .i64), (.int .i64), (.int .i64), (.int .i64), (.int .i64), (.int .i64), (.int .i64), (.int .i64), (.int .i64), (.int .i64), (.int .i64), (.int .i64), (.int .i64), (.int .i64), (.int .i64), (.int .i64), (.int .i64), (.int .i64), (.int .i64), (.int .i64), (.int .i64), (.int .i64), (.int .i64), (.int .i64), (.int .i64), (.int .i64), (.int .i64), (.int .i64), (.int .i64), (.int .i64), (.int .i64), (.int .i64), (.int .i64), (.int .i64), (.int .i64), (.int .i64), (.int .i64), (.int .i64), (.int .i64), (.int .i64), (.int .i64), (.int .i64), (.int .i64), (.int .i64), (.int .i64), (.int .i64), (.int .i64), (.int .i64), (.int .i64), (.int .i64), (.int .i64), (.int .i64), (.int .i64)])], [], none⟩
noncomputable def c41 : Code := Try.f41.body.getD .skip
theorem b41 : Try.f41.body = some c41 := body_some (by kernel_rfl)
theorem n41 : (Try.f41.name == "runtime.NumGoroutine") = false := by kernel_rfl
def sg41 : List (FuncId × Sig) := []
def lt41 : List (Nat × LoopSig) := []
theorem k41 : (Code.loops c41).length = 0 := by kernel_rfl
def vt41 : VT :=
  (.ret (.cons (.n 0) (.cons (.n 175) (.cons (.n 349) (.cons (.n 523) (.cons (.n 698) (.cons (.n 872) (.cons (.n 1045) (.cons (.n 1219) (.cons (.n 1392) (.cons (.n 1564) (.cons (.n 1736) (.cons (.n 1908) (.cons (.n 2079) (.cons (.n 2250) (.cons (.n 2419) (.cons (.n 2588) (.cons (.n 2756) (.cons (.n 2924) (.cons (.n 3090) (.cons (.n 3256) (.cons (.n 3420) (.cons (.n 3584) (.cons (.n 3746) (.cons (.n 3907) (.cons (.n 4067) (.cons (.n 4226) (.cons (.n 4384) (.cons (.n 4540) (.cons (.n 4695) (.cons (.n 4848) (.cons (.n 5000) (.cons (.n 5150) (.cons (.n 5299) (.cons (.n 5446) (.cons (.n 5592) (.cons (.n 5736) (.cons (.n 5878) (.cons (.n 6018) (.cons (.n 6157) (.cons (.n 6293) (.cons (.n 6428) (.cons (.n 6561) (.cons (.n 6691) (.cons (.n 6820) (.cons (.n 6947) (.cons (.n 7071) (.cons (.n 7193) (.cons (.n 7314) (.cons (.n 7431) (.cons (.n 7547) (.cons (.n 7660) (.cons (.n 7771) (.cons (.n 7880) (.cons (.n 7986) (.cons (.n 8090) (.cons (.n 8192) (.cons (.n 8290) (.cons (.n 8387) (.cons (.n 8480) (.cons (.n 8572) (.cons (.n 8660) (.cons (.n 8746) (.cons (.n 8829) (.cons (.n 8910) (.cons (.n 8988) (.cons (.n 9063) (.cons (.n 9135) (.cons (.n 9205) (.cons (.n 9272) (.cons (.n 9336) (.cons (.n 9397) (.cons (.n 9455) (.cons (.n 9511) (.cons (.n 9563) (.cons (.n 9613) (.cons (.n 9659) (.cons (.n 9703) (.cons (.n 9744) (.cons (.n 9781) (.cons (.n 9816) (.cons (.n 9848) (.cons (.n 9877) (.cons (.n 9903) (.cons (.n 9925) (.cons (.n 9945) (.cons (.n 9962) (.cons (.n 9976) (.cons (.n 9986) (.cons (.n 9994) (.cons (.n 9998) (.cons (.n 10000) .nil))))))))))))))))))))))))))))))))))))))))))))))))))))))))))))))))))))))))))))))))))))))))))))
theorem e41 : (fnVT Try.prog (sgOf sg41) (ltOf lt41) S41 Try.f41 c41).slim (S41.ps.map fun p => p.2.length).sum [] = vt41 := by kernel_rfl
def T41 : FuncId → List D → List D := tabOf []
def fn41 (ρ : List D) : List D := vt41.val T41 ρ
theorem m41 : Meets Try.prog 41 S41 (fun _ => True) fn41 := meets_easy (sgl := sg41) (Φ := T41) mixed ((fun _ h => nomatch h)) Try.func41 b41 n41 k41 e41 (by kernel_rfl)

/-! ### 37 -/
def S37 : Sig := ⟨[(false, [(.int .i64)])], [(false, [(.int .i64)])], [], none⟩
noncomputable def c37 : Code := Try.f37.body.getD .skip
theorem b37 : Try.f37.body = some c37 := body_some (by kernel_rfl)
theorem n37 : (Try.f37.name == "runtime.NumGoroutine") = false := by kernel_rfl
def sg37 : List (FuncId × Sig) := [(37, S37), (41, S41)]
def lt37 : List (Nat × LoopSig) := []
theorem k37 : (Code.loops c37).length = 0 := by kernel_rfl
def vt37 : VT :=
  (.ite (.bin .lt (.n 180) (.var 0))
   (.need (.t true) (.pre 37 (.cons (.bin (.sub .i64) (.var 0) (.n 180)) .nil))
   (.lt (.app 37 (.cons (.bin (.sub .i64) (.var 0) (.n 180)) .nil) 0) 1
   (.ret (.cons (.un (.neg .i64) (.var 1)) .nil))))
   (.need (.t true) (.pre 41 .nil)
   (.lt (.app 41 .nil 0) 91
   (.need (.t true) (.c (.bin .le (.n 0) (.bin .min (.var 0) (.bin (.sub .i64) (.n 180) (.var 0)))))
   (.need (.t true) (.c (.bin .lt (.bin .min (.var 0) (.bin (.sub .i64) (.n 180) (.var 0))) (.n 91)))
   (.ret (.cons (.nth (.cons (.var 1) (.cons (.var 2) (.cons (.var 3) (.cons (.var 4) (.cons (.var 5) (.cons (.var 6) (.cons (.var 7) (.cons (.var 8) (.cons (.var 9) (.cons (.var 10) (.cons (.var 11) (.cons (.var 12) (.cons (.var 13) (.cons (.var 14) (.cons (.var 15) (.cons (.var 16) (.cons (.var 17) (.cons (.var 18) (.cons (.var 19) (.cons (.var 20) (.cons (.var 21) (.cons (.var 22) (.cons (.var 23) (.cons (.var 24) (.cons (.var 25) (.cons (.var 26) (.cons (.var 27) (.cons (.var 28) (.cons (.var 29) (.cons (.var 30) (.cons (.var 31) (.cons (.var 32) (.cons (.var 33) (.cons (.var 34) (.cons (.var 35) (.cons (.var 36) (.cons (.var 37) (.cons (.var 38) (.cons (.var 39) (.cons (.var 40) (.cons (.var 41) (.cons (.var 42) (.cons (.var 43) (.cons (.var 44) (.cons (.var 45) (.cons (.var 46) (.cons (.var 47) (.cons (.var 48) (.cons (.var 49) (.cons (.var 50) (.cons (.var 51) (.cons (.var 52) (.cons (.var 53) (.cons (.var 54) (.cons (.var 55) (.cons (.var 56) (.cons (.var 57) (.cons (.var 58) (.cons (.var 59) (.cons (.var 60) (.cons (.var 61) (.cons (.var 62) (.cons (.var 63) (.cons (.var 64) (.cons (.var 65) (.cons (.var 66) (.cons (.var 67) (.cons (.var 68) (.cons (.var 69) (.cons (.var 70) (.cons (.var 71) (.cons (.var 72) (.cons (.var 73) (.cons (.var 74) (.cons (.var 75) (.cons (.var 76) (.cons (.var 77) (.cons (.var 78) (.cons (.var 79) (.cons (.var 80) (.cons (.var 81) (.cons (.var 82) (.cons (.var 83) (.cons (.var 84) (.cons (.var 85) (.cons (.var 86) (.cons (.var 87) (.cons (.var 88) (.cons (.var 89) (.cons (.var 90) (.cons (.var 91) .nil))))))))))))))))))))))))))))))))))))))))))))))))))))))))))))))))))))))))))))))))))))))))))) (.bin .min (.var 0) (.bin (.sub .i64) (.n 180) (.var 0)))) .nil)))))))
theorem e37 : (fnVT Try.prog (sgOf sg37) (ltOf lt37) S37 Try.f37 c37).slim (S37.ps.map fun p => p.2.length).sum [] = vt37 := by kernel_rfl

/-! ### 31 -/
def S31 : Sig := ⟨[(false, [(.int .i64)])], [(false, [(.int .i64)])], [], none⟩
noncomputable def c31 : Code := Try.f31.body.getD .skip
theorem b31 : Try.f31.body = some c31 := body_some (by kernel_rfl)
theorem n31 : (Try.f31.name == "runtime.NumGoroutine") = false := by kernel_rfl
def sg31 : List (FuncId × Sig) := [(38, S38), (37, S37)]
def lt31 : List (Nat × LoopSig) := []
theorem k31 : (Code.loops c31).length = 0 := by kernel_rfl
def vt31 : VT :=
  (.need (.t true) (.pre 38 (.cons (.var 0) .nil))
  (.lt (.app 38 (.cons (.var 0) .nil) 0) 1
  (.need (.t true) (.pre 38 (.cons (.bin (.add .i64) (.var 1) (.n 90)) .nil))
  (.lt (.app 38 (.cons (.bin (.add .i64) (.var 1) (.n 90)) .nil) 0) 1
  (.need (.t true) (.pre 37 (.cons (.var 2) .nil))
  (.lt (.app 37 (.cons (.var 2) .nil) 0) 1
  (.ret (.cons (.var 3) .nil))))))))
theorem e31 : (fnVT Try.prog (sgOf sg31) (ltOf lt31) S31 Try.f31 c31).slim (S31.ps.map fun p => p.2.length).sum [] = vt31 := by kernel_rfl

/-! ### 30 -/
def S30 : Sig := ⟨[(false, [(.int .i64)]), (false, [(.int .i64)])], [(false, [(.int .i64)])], [], none⟩
noncomputable def c30 : Code := Try.f30.body.getD .skip
theorem b30 : Try.f30.body = some c30 := body_some (by kernel_rfl)
theorem n30 : (Try.f30.name == "runtime.NumGoroutine") = false := by kernel_rfl
def sg30 : List (FuncId × Sig) := []
def lt30 : List (Nat × LoopSig) := []
theorem k30 : (Code.loops c30).length = 0 := by kernel_rfl
def vt30 : VT :=
  (.ite (.bin .lt (.bin (.mul .i64) (.var 0) (.var 1)) (.n 0))
   (.ret (.cons (.un (.neg .i64) (.bin (.quo .i64) (.bin (.add .i64) (.un (.neg .i64) (.bin (.mul .i64) (.var 0) (.var 1))) (.n 5000)) (.n 10000))) .nil))
   (.ret (.cons (.bin (.quo .i64) (.bin (.add .i64) (.bin (.mul .i64) (.var 0) (.var 1)) (.n 5000)) (.n 10000)) .nil)))
theorem e30 : (fnVT Try.prog (sgOf sg30) (ltOf lt30) S30 Try.f30 c30).slim (S30.ps.map fun p => p.2.length).sum [] = vt30 := by kernel_rfl
def T30 : FuncId → List D → List D := tabOf []
def fn30 (ρ : List D) : List D := vt30.val T30 ρ
theorem m30 : Meets Try.prog 30 S30 (fun _ => True) fn30 := meets_easy (sgl := sg30) (Φ := T30) mixed ((fun _ h => nomatch h)) Try.func30 b30 n30 k30 e30 (by kernel_rfl)

/-! ### 32 -/
def S32 : Sig := ⟨[(false, [(.int .i64)])], [(false, [(.int .i64)])], [], none⟩
noncomputable def c32 : Code := Try.f32.body.getD .skip
theorem b32 : Try.f32.body = some c32 := body_some (by kernel_rfl)
theorem n32 : (Try.f32.name == "runtime.NumGoroutine") = false := by kernel_rfl
def sg32 : List (FuncId × Sig) := [(38, S38), (37, S37)]
def lt32 : List (Nat × LoopSig) := []
theorem k32 : (Code.loops c32).length = 0 := by kernel_rfl
def vt32 : VT :=
  (.need (.t true) (.pre 38 (.cons (.var 0) .nil))
  (.lt (.app 38 (.cons (.var 0) .nil) 0) 1
  (.need (.t true) (.pre 37 (.cons (.var 1) .nil))
  (.lt (.app 37 (.cons (.var 1) .nil) 0) 1
  (.ret (.cons (.var 2) .nil))))))
theorem e32 : (fnVT Try.prog (sgOf sg32) (ltOf lt32) S32 Try.f32 c32).slim (S32.ps.map fun p => p.2.length).sum [] = vt32 := by kernel_rfl

/-! ### 27 -/
def S27 : Sig := ⟨[(true, [(.int .i64), (.int .i64)]), (false, [(.int .i64)]), (false, [(.int .i64)])], [(true, [(.int .i64), (.int .i64)])], [], none⟩
noncomputable def c27 : Code := Try.f27.body.getD .skip
theorem b27 : Try.f27.body = some c27 := body_some (by kernel_rfl)
theorem n27 : (Try.f27.name == "runtime.NumGoroutine") = false := by kernel_rfl
def sg27 : List (FuncId × Sig) := [(29, S29), (31, S31), (30, S30), (32, S32)]
def lt27 : List (Nat × LoopSig) := []
theorem k27 : (Code.loops c27).length = 0 := by kernel_rfl
def vt27 : VT :=
  (.need (.t true) (.pre 29 (.cons (.var 0) (.cons (.var 1) .nil)))
  (.lt (.app 29 (.cons (.var 0) (.cons (.var 1) .nil)) 0) 1
  (.ite (.ite (.ite (.un .not (.var 4)) (.t true) (.bin .lt (.var 2) (.n 0))) (.t true) (.bin .lt (.n 1048576) (.var 2)))
   (.ret (.cons (.n 0) (.cons (.n 0) .nil)))
   (.need (.t true) (.pre 31 (.cons (.var 3) .nil))
   (.lt (.app 31 (.cons (.var 3) .nil) 0) 1
   (.need (.t true) (.pre 30 (.cons (.var 2) (.cons (.var 5) .nil)))
   (.lt (.app 30 (.cons (.var 2) (.cons (.var 5) .nil)) 0) 1
   (.need (.t true) (.pre 32 (.cons (.var 3) .nil))
   (.lt (.app 32 (.cons (.var 3) .nil) 0) 1
   (.need (.t true) (.pre 30 (.cons (.var 2) (.cons (.var 7) .nil)))
   (.lt (.app 30 (.cons (.var 2) (.cons (.var 7) .nil)) 0) 1
   (.need (.t true) (.pre 29 (.cons (.bin (.add .i64) (.var 0) (.var 6)) (.cons (.bin (.add .i64) (.var 1) (.var 8)) .nil)))
   (.lt (.app 29 (.cons (.bin (.add .i64) (.var 0) (.var 6)) (.cons (.bin (.add .i64) (.var 1) (.var 8)) .nil)) 0) 1
   (.ite (.un .not (.var 9))
    (.ret (.cons (.n 0) (.cons (.n 0) .nil)))
    (.ret (.cons (.bin (.add .i64) (.var 0) (.var 6)) (.cons (.bin (.add .i64) (.var 1) (.var 8)) .nil)))))))))))))))))
theorem e27 : (fnVT Try.prog (sgOf sg27) (ltOf lt27) S27 Try.f27 c27).slim (S27.ps.map fun p => p.2.length).sum [] = vt27 := by kernel_rfl

/-! ### 14 -/
def S14 : Sig := ⟨[(false, [(.sl 3 [(.int .i64)])]), (false, [(.int .i64)])], [(false, [(.sl 39 [(.int .i64), (.int .i64)])]), (false, [(.int .i64)])], [], none⟩
noncomputable def c14 : Code := Try.f14.body.getD .skip
theorem b14 : Try.f14.body = some c14 := body_some (by kernel_rfl)
theorem n14 : (Try.f14.name == "runtime.NumGoroutine") = false := by kernel_rfl
def sg14 : List (FuncId × Sig) := [(22, S22), (9, S9), (25, S25), (26, S26), (27, S27)]
def L14_0 : LoopSig := ⟨11400, [(10, none, 39)],
   ⟨[.any, (.c (.x (.int .i64) (.var 0))), .any, .any, .any, .any, (.c (.x (.sl 3 [(.int .i64)]) (.var 1))), .any, .any, .any, (.c (.row 0 1)), .any, .any, .any, .any, .any, .any, .any, .any, .any, .any, .any, .any, .any, .any, .any, .any, .any, .any, .any, .any, .any, .any, .any, .any, .any, .any, .any, .any, .any, .any, (.c (.x (.sl 3 [(.int .i64)]) (.var 2))), (.c (.x (.int .i64) (.var 3))), (.c (.x (.int .i64) (.var 4))), .any, .any, .any, .any, .any, .any, .any, .any, .any, .any, .any, .any, .any, .any, .any, .any, .any, .any, .any, .any, .any],
    [some ⟨(.t true), (.row 39 [(.int .i64), (.int .i64)] (.var 5) 1 false)⟩]⟩,
   6, [4, 5], [44, 45, 46, 47, 11, 12, 13, 48, 49, 50, 51, 52, 53, 54, 55, 56, 57, 58, 59, 60, 61, 62, 10, 63, 43], [(.exit 0)], [5]⟩
def lt14 : List (Nat × LoopSig) := [(11, L14_0)]
theorem k14 : (Code.loops c14).length = 1 := by kernel_rfl
noncomputable def lb14_0 : Code := (Code.loops c14).getD 0 .skip
def rt14_0 : VT :=
  (.ite (.bin .lt (.var 4) (.var 3))
   (.need (.t true) (.c (.bin .le (.n 0) (.var 4)))
   (.need (.t true) (.c (.bin .lt (.var 4) (.un .len (.var 2))))
   (.ite (.bin .lt (.n 0) (.sel 0 (.var 2) (.var 4)))
    (.need (.t true) (.c (.bin .lt (.var 4) (.un .len (.var 1))))
    (.need (.t true) (.pre 27 (.cons (.n 0) (.cons (.n 0) (.cons (.bin (.mul .i64) (.sel 0 (.var 2) (.var 4)) (.var 0)) (.cons (.sel 0 (.var 1) (.var 4)) .nil)))))
    (.lt (.app 27 (.cons (.n 0) (.cons (.n 0) (.cons (.bin (.mul .i64) (.sel 0 (.var 2) (.var 4)) (.var 0)) (.cons (.sel 0 (.var 1) (.var 4)) .nil)))) 0) 2
    (.need (.t true) (.c (.bin .le (.un .len (.bin .cat (.var 5) (.lcons (.cons (.var 6) (.cons (.var 7) .nil)) .lnil))) (.n 8796093022208)))
    (.ret (.cons (.n (-1)) (.cons (.bin (.add .i64) (.var 4) (.n 1)) (.cons (.bin .cat (.var 5) (.lcons (.cons (.var 6) (.cons (.var 7) .nil)) .lnil)) .nil))))))))
    (.need (.t true) (.c (.bin .lt (.var 4) (.un .len (.var 1))))
    (.need (.t true) (.pre 27 (.cons (.n 0) (.cons (.n 0) (.cons (.n 0) (.cons (.sel 0 (.var 1) (.var 4)) .nil)))))
    (.lt (.app 27 (.cons (.n 0) (.cons (.n 0) (.cons (.n 0) (.cons (.sel 0 (.var 1) (.var 4)) .nil)))) 0) 2
    (.need (.t true) (.c (.bin .le (.un .len (.bin .cat (.var 5) (.lcons (.cons (.var 6) (.cons (.var 7) .nil)) .lnil))) (.n 8796093022208)))
    (.ret (.cons (.n (-1)) (.cons (.bin (.add .i64) (.var 4) (.n 1)) (.cons (.bin .cat (.var 5) (.lcons (.cons (.var 6) (.cons (.var 7) .nil)) .lnil)) .nil)))))))))))
   (.ret (.cons (.n 0) (.cons (.var 4) (.cons (.var 5) .nil)))))
theorem le14_0 : (loopVT Try.prog (sgOf sg14) (ltOf lt14) L14_0 lb14_0).slim L14_0.nv [] = rt14_0 := by kernel_rfl
theorem lf14_0 : (firstRegion lb14_0).bind (ltOf lt14) = some L14_0 := by kernel_rfl
theorem lk14_0 : (Code.loops lb14_0).length = 0 := by kernel_rfl
def vt14 : VT :=
  (.need (.t true) (.pre 22 (.cons (.var 0) .nil))
  (.lt (.app 22 (.cons (.var 0) .nil) 0) 1
  (.ite (.ite (.un .not (.var 2)) (.t true) (.bin .lt (.var 1) (.n 0)))
   (.ret (.cons .lnil (.cons (.n 1) .nil)))
   (.need (.t true) (.pre 9 (.cons (.var 0) .nil))
   (.lt (.app 9 (.cons (.var 0) .nil) 0) 2
   (.need (.t true) (.pre 25 (.cons (.var 0) .nil))
   (.lt (.app 25 (.cons (.var 0) .nil) 0) 1
   (.ite (.bin .lt (.n 0) (.un .len (.var 5)))
    (.need (.t true) (.pre 26 (.cons (.var 5) .nil))
    (.lt (.app 26 (.cons (.var 5) .nil) 0) 1
    (.need (.bin .lt (.n 0) (.var 6)) (.c (.un .not (.bin .eq (.var 6) (.n 0))))
    (.ite (.ite (.bin .lt (.n 0) (.var 6)) (.bin .lt (.bin (.quo .i64) (.n 1048576) (.var 6)) (.var 1)) (.t false))
     (.ret (.cons .lnil (.cons (.n 2) .nil)))
     (.need (.t true) (.pre 11400 (.cons (.var 1) (.cons (.var 3) (.cons (.var 5) (.cons (.un .len (.var 5)) (.cons (.n 0) (.cons .lnil .nil)))))))
     (.lt (.app 11400 (.cons (.var 1) (.cons (.var 3) (.cons (.var 5) (.cons (.un .len (.var 5)) (.cons (.n 0) (.cons .lnil .nil)))))) 0) 3
     (.ret (.cons (.var 9) (.cons (.n 0) .nil)))))))))
    (.need (.t true) (.pre 11400 (.cons (.var 1) (.cons (.var 3) (.cons (.var 5) (.cons (.un .len (.var 5)) (.cons (.n 0) (.cons .lnil .nil)))))))
    (.lt (.app 11400 (.cons (.var 1) (.cons (.var 3) (.cons (.var 5) (.cons (.un .len (.var 5)) (.cons (.n 0) (.cons .lnil .nil)))))) 0) 3
    (.ret (.cons (.var 8) (.cons (.n 0) .nil)))))))))))))
theorem e14 : (fnVT Try.prog (sgOf sg14) (ltOf lt14) S14 Try.f14 c14).slim (S14.ps.map fun p => p.2.length).sum [] = vt14 := by kernel_rfl

/-! ### 11 -/
def S11 : Sig := ⟨[(false, [(.sl 3 [(.int .i64)])]), (false, [(.sl 3 [(.int .i64)])])], [(false, [.bool])], [], none⟩
noncomputable def c11 : Code := Try.f11.body.getD .skip
theorem b11 : Try.f11.body = some c11 := body_some (by kernel_rfl)
theorem n11 : (Try.f11.name == "runtime.NumGoroutine") = false := by kernel_rfl
def sg11 : List (FuncId × Sig) := []
def L11_0 : LoopSig := ⟨11100, [],
   ⟨[(.c (.x (.sl 3 [(.int .i64)]) (.var 0))), (.c (.x (.sl 3 [(.int .i64)]) (.var 1))), .any, .any, (.c (.x .bool (.var 2))), (.c (.x (.int .i64) (.var 3))), .any, .any, .any, .any, .any, .any, .any, .any, .any, .any, .any, .any, .any, .any, .any, .any, .any, .any, .any, .any],
    []⟩,
   4, [2, 3], [11, 12, 13, 14, 17, 18, 19, 20, 21, 22, 23, 24, 25, 4, 15, 16, 5], [.ret, (.exit 0)], []⟩
def lt11 : List (Nat × LoopSig) := [(4, L11_0)]
theorem k11 : (Code.loops c11).length = 1 := by kernel_rfl
noncomputable def lb11_0 : Code := (Code.loops c11).getD 0 .skip
def rt11_0 : VT :=
  (.ite (.bin .lt (.var 3) (.un .len (.var 0)))
   (.need (.t true) (.c (.bin .le (.n 0) (.var 3)))
   (.need (.t true) (.c (.bin .lt (.var 3) (.un .len (.var 1))))
   (.ite (.un .not (.bin .eq (.sel 0 (.var 0) (.var 3)) (.sel 0 (.var 1) (.var 3))))
    (.ret (.cons (.n 0) (.cons (.t false) (.cons (.var 3) .nil))))
    (.ret (.cons (.n (-1)) (.cons (.var 2) (.cons (.bin (.add .i64) (.var 3) (.n 1)) .nil)))))))
   (.ret (.cons (.n 1) (.cons (.var 2) (.cons (.var 3) .nil)))))
theorem le11_0 : (loopVT Try.prog (sgOf sg11) (ltOf lt11) L11_0 lb11_0).slim L11_0.nv [] = rt11_0 := by kernel_rfl
theorem lf11_0 : (firstRegion lb11_0).bind (ltOf lt11) = some L11_0 := by kernel_rfl
theorem lk11_0 : (Code.loops lb11_0).length = 0 := by kernel_rfl
def vt11 : VT :=
  (.ite (.un .not (.bin .eq (.un .len (.var 0)) (.un .len (.var 1))))
   (.ret (.cons (.t false) .nil))
   (.need (.t true) (.pre 11100 (.cons (.var 0) (.cons (.var 1) (.cons (.t false) (.cons (.n 0) .nil)))))
   (.lt (.app 11100 (.cons (.var 0) (.cons (.var 1) (.cons (.t false) (.cons (.n 0) .nil)))) 0) 3
   (.ite (.bin .eq (.var 2) (.n 0))
    (.ret (.cons (.var 3) .nil))
    (.ret (.cons (.t true) .nil))))))
theorem e11 : (fnVT Try.prog (sgOf sg11) (ltOf lt11) S11 Try.f11 c11).slim (S11.ps.map fun p => p.2.length).sum [] = vt11 := by kernel_rfl

/-! ### 16 -/
def S16 : Sig := ⟨[(false, [(.sl 39 [(.int .i64), (.int .i64)])]), (false, [(.sl 39 [(.int .i64), (.int .i64)])])], [(false, [.bool])], [], none⟩
noncomputable def c16 : Code := Try.f16.body.getD .skip
theorem b16 : Try.f16.body = some c16 := body_some (by kernel_rfl)
theorem n16 : (Try.f16.name == "runtime.NumGoroutine") = false := by kernel_rfl
def sg16 : List (FuncId × Sig) := []
def L16_0 : LoopSig := ⟨11600, [],
   ⟨[(.c (.x (.sl 39 [(.int .i64), (.int .i64)]) (.var 0))), (.c (.x (.sl 39 [(.int .i64), (.int .i64)]) (.var 1))), .any, .any, (.c (.x .bool (.var 2))), (.c (.x (.int .i64) (.var 3))), .any, .any, .any, .any, .any, .any, .any, .any, .any, .any, .any, .any, .any, .any, .any, .any, .any, .any, .any, .any],
    []⟩,
   4, [2, 3], [11, 12, 13, 14, 17, 18, 19, 20, 21, 22, 23, 24, 25, 4, 15, 16, 5], [.ret, (.exit 0)], []⟩
def lt16 : List (Nat × LoopSig) := [(4, L16_0)]
theorem k16 : (Code.loops c16).length = 1 := by kernel_rfl
noncomputable def lb16_0 : Code := (Code.loops c16).getD 0 .skip
def rt16_0 : VT :=
  (.ite (.bin .lt (.var 3) (.un .len (.var 0)))
   (.need (.t true) (.c (.bin .le (.n 0) (.var 3)))
   (.need (.t true) (.c (.bin .lt (.var 3) (.un .len (.var 1))))
   (.ite (.un .not (.ite (.bin .eq (.sel 0 (.var 0) (.var 3)) (.sel 0 (.var 1) (.var 3))) (.bin .eq (.sel 1 (.var 0) (.var 3)) (.sel 1 (.var 1) (.var 3))) (.t false)))
    (.ret (.cons (.n 0) (.cons (.t false) (.cons (.var 3) .nil))))
    (.ret (.cons (.n (-1)) (.cons (.var 2) (.cons (.bin (.add .i64) (.var 3) (.n 1)) .nil)))))))
   (.ret (.cons (.n 1) (.cons (.var 2) (.cons (.var 3) .nil)))))
theorem le16_0 : (loopVT Try.prog (sgOf sg16) (ltOf lt16) L16_0 lb16_0).slim L16_0.nv [] = rt16_0 := by kernel_rfl
theorem lf16_0 : (firstRegion lb16_0).bind (ltOf lt16) = some L16_0 := by kernel_rfl
theorem lk16_0 : (Code.loops lb16_0).length = 0 := by kernel_rfl
def vt16 : VT :=
  (.ite (.un .not (.bin .eq (.un .len (.var 0)) (.un .len (.var 1))))
   (.ret (.cons (.t false) .nil))
   (.need (.t true) (.pre 11600 (.cons (.var 0) (.cons (.var 1) (.cons (.t false) (.cons (.n 0) .nil)))))
   (.lt (.app 11600 (.cons (.var 0) (.cons (.var 1) (.cons (.t false) (.cons (.n 0) .nil)))) 0) 3
   (.ite (.bin .eq (.var 2) (.n 0))
    (.ret (.cons (.var 3) .nil))
    (.ret (.cons (.t true) .nil))))))
theorem e16 : (fnVT Try.prog (sgOf sg16) (ltOf lt16) S16 Try.f16 c16).slim (S16.ps.map fun p => p.2.length).sum [] = vt16 := by kernel_rfl

/-! ### 17 -/
def S17 : Sig := ⟨[(false, [(.int .i64)]), (false, [(.int .i64)])], [(false, [(.int .i64)])], [], none⟩
noncomputable def c17 : Code := Try.f17.body.getD .skip
theorem b17 : Try.f17.body = some c17 := body_some (by kernel_rfl)
theorem n17 : (Try.f17.name == "runtime.NumGoroutine") = false := by kernel_rfl
def sg17 : List (FuncId × Sig) := []
def lt17 : List (Nat × LoopSig) := []
theorem k17 : (Code.loops c17).length = 0 := by kernel_rfl
def vt17 : VT :=
  (.ite (.ite (.ite (.ite (.bin .lt (.var 0) (.n 1)) (.t true) (.bin .lt (.n 64) (.var 0))) (.t true) (.bin .lt (.var 1) (.n 0))) (.t true) (.bin .lt (.n 1048576) (.var 1)))
   (.ret (.cons (.n 0) .nil))
   (.need (.t true) (.c (.un .not (.bin .eq (.var 0) (.n 0))))
   (.need (.t true) (.c (.un .not (.bin .eq (.bin .min (.n 60) (.bin (.quo .i64) (.n 360) (.var 0))) (.n 0))))
   (.ret (.cons (.bin (.quo .i64) (.bin (.sub .i64) (.bin (.add .i64) (.bin (.mul .i64) (.n 60) (.bin (.add .i64) (.bin (.quo .i64) (.bin (.add .i64) (.bin (.mul .i64) (.n 3) (.var 1)) (.n 1)) (.n 2)) (.n 256))) (.bin .min (.n 60) (.bin (.quo .i64) (.n 360) (.var 0)))) (.n 1)) (.bin .min (.n 60) (.bin (.quo .i64) (.n 360) (.var 0)))) .nil)))))
theorem e17 : (fnVT Try.prog (sgOf sg17) (ltOf lt17) S17 Try.f17 c17).slim (S17.ps.map fun p => p.2.length).sum [] = vt17 := by kernel_rfl

/-! ### 8 -/
def S8 : Sig := ⟨[], [(false, [.bool])], [], none⟩
noncomputable def c8 : Code := Try.f8.body.getD .skip
theorem b8 : Try.f8.body = some c8 := body_some (by kernel_rfl)
theorem n8 : (Try.f8.name == "runtime.NumGoroutine") = false := by kernel_rfl
def sg8 : List (FuncId × Sig) := [(9, S9), (14, S14), (12, S12), (11, S11), (16, S16), (17, S17)]
def lt8 : List (Nat × LoopSig) := []
theorem k8 : (Code.loops c8).length = 0 := by kernel_rfl
def vt8 : VT :=
  (.need (.t true) (.pre 9 (.cons (.lcons (.cons (.n (-1)) .nil) (.lcons (.cons (.n 0) .nil) (.lcons (.cons (.n 0) .nil) .lnil))) .nil))
  (.lt (.app 9 (.cons (.lcons (.cons (.n (-1)) .nil) (.lcons (.cons (.n 0) .nil) (.lcons (.cons (.n 0) .nil) .lnil))) .nil) 0) 2
  (.need (.t true) (.pre 14 (.cons (.lcons (.cons (.n (-1)) .nil) (.lcons (.cons (.n 0) .nil) (.lcons (.cons (.n 0) .nil) .lnil))) (.cons (.n 1000) .nil)))
  (.lt (.app 14 (.cons (.lcons (.cons (.n (-1)) .nil) (.lcons (.cons (.n 0) .nil) (.lcons (.cons (.n 0) .nil) .lnil))) (.cons (.n 1000) .nil)) 0) 2
  (.need (.t true) (.pre 14 (.cons (.lcons (.cons (.n (-1)) .nil) (.lcons (.cons (.n 0) .nil) (.lcons (.cons (.n 0) .nil) .lnil))) (.cons (.n (-1)) .nil)))
  (.lt (.app 14 (.cons (.lcons (.cons (.n (-1)) .nil) (.lcons (.cons (.n 0) .nil) (.lcons (.cons (.n 0) .nil) .lnil))) (.cons (.n (-1)) .nil)) 0) 2
  (.need (.t true) (.pre 9 (.cons (.lcons (.cons (.n (-1)) .nil) (.lcons (.cons (.n (-1)) .nil) .lnil)) .nil))
  (.lt (.app 9 (.cons (.lcons (.cons (.n (-1)) .nil) (.lcons (.cons (.n (-1)) .nil) .lnil)) .nil) 0) 2
  (.need (.t true) (.pre 12 (.cons (.lcons (.cons (.n (-1)) .nil) (.lcons (.cons (.n 0) .nil) (.lcons (.cons (.n 0) .nil) .lnil))) .nil))
  (.lt (.app 12 (.cons (.lcons (.cons (.n (-1)) .nil) (.lcons (.cons (.n 0) .nil) (.lcons (.cons (.n 0) .nil) .lnil))) .nil) 0) 1
  (.need (.t true) (.pre 11 (.cons (.var 8) (.cons (.lcons (.cons (.n 2) .nil) (.lcons (.cons (.n 1) .nil) (.lcons (.cons (.n 1) .nil) .lnil))) .nil)))
  (.lt (.app 11 (.cons (.var 8) (.cons (.lcons (.cons (.n 2) .nil) (.lcons (.cons (.n 1) .nil) (.lcons (.cons (.n 1) .nil) .lnil))) .nil)) 0) 1
  (.need (.var 9) (.pre 11 (.cons (.var 0) (.cons (.lcons (.cons (.n 180) .nil) (.lcons (.cons (.n 90) .nil) (.lcons (.cons (.n 270) .nil) .lnil))) .nil)))
  (.lt (.app 11 (.cons (.var 0) (.cons (.lcons (.cons (.n 180) .nil) (.lcons (.cons (.n 90) .nil) (.lcons (.cons (.n 270) .nil) .lnil))) .nil)) 0) 1
  (.need (.ite (.ite (.var 9) (.var 10) (.t false)) (.bin .eq (.var 1) (.n 0)) (.t false)) (.pre 16 (.cons (.var 2) (.cons (.lcons (.cons (.n 0) (.cons (.n 0) .nil)) (.lcons (.cons (.n 0) (.cons (.n 1000) .nil)) (.lcons (.cons (.n 0) (.cons (.n (-1000)) .nil)) .lnil))) .nil)))
  (.lt (.app 16 (.cons (.var 2) (.cons (.lcons (.cons (.n 0) (.cons (.n 0) .nil)) (.lcons (.cons (.n 0) (.cons (.n 1000) .nil)) (.lcons (.cons (.n 0) (.cons (.n (-1000)) .nil)) .lnil))) .nil)) 0) 1
  (.need (.ite (.ite (.ite (.ite (.ite (.var 9) (.var 10) (.t false)) (.bin .eq (.var 1) (.n 0)) (.t false)) (.var 11) (.t false)) (.bin .eq (.var 3) (.n 0)) (.t false)) (.bin .eq (.var 5) (.n 1)) (.t false)) (.pre 11 (.cons (.var 6) (.cons (.lcons (.cons (.n 90) .nil) (.lcons (.cons (.n 270) .nil) .lnil)) .nil)))
  (.lt (.app 11 (.cons (.var 6) (.cons (.lcons (.cons (.n 90) .nil) (.lcons (.cons (.n 270) .nil) .lnil)) .nil)) 0) 1
  (.need (.ite (.ite (.ite (.ite (.ite (.ite (.ite (.var 9) (.var 10) (.t false)) (.bin .eq (.var 1) (.n 0)) (.t false)) (.var 11) (.t false)) (.bin .eq (.var 3) (.n 0)) (.t false)) (.bin .eq (.var 5) (.n 1)) (.t false)) (.var 12) (.t false)) (.bin .eq (.var 7) (.n 0)) (.t false)) (.pre 17 (.cons (.n 10) (.cons (.n 20000) .nil)))
  (.lt (.app 17 (.cons (.n 10) (.cons (.n 20000) .nil)) 0) 1
  (.need (.ite (.ite (.ite (.ite (.ite (.ite (.ite (.ite (.var 9) (.var 10) (.t false)) (.bin .eq (.var 1) (.n 0)) (.t false)) (.var 11) (.t false)) (.bin .eq (.var 3) (.n 0)) (.t false)) (.bin .eq (.var 5) (.n 1)) (.t false)) (.var 12) (.t false)) (.bin .eq (.var 7) (.n 0)) (.t false)) (.bin .eq (.var 13) (.n 50427)) (.t false)) (.pre 17 (.cons (.n 0) (.cons (.n 1) .nil)))
  (.lt (.app 17 (.cons (.n 0) (.cons (.n 1) .nil)) 0) 1
  (.ret (.cons (.ite (.ite (.ite (.ite (.ite (.ite (.ite (.ite (.ite (.var 9) (.var 10) (.t false)) (.bin .eq (.var 1) (.n 0)) (.t false)) (.var 11) (.t false)) (.bin .eq (.var 3) (.n 0)) (.t false)) (.bin .eq (.var 5) (.n 1)) (.t false)) (.var 12) (.t false)) (.bin .eq (.var 7) (.n 0)) (.t false)) (.bin .eq (.var 13) (.n 50427)) (.t false)) (.bin .eq (.var 14) (.n 0)) (.t false)) .nil))))))))))))))))))))))))
theorem e8 : (fnVT Try.prog (sgOf sg8) (ltOf lt8) S8 Try.f8 c8).slim (S8.ps.map fun p => p.2.length).sum [] = vt8 := by kernel_rfl

/-! ### 19 -/
def S19 : Sig := ⟨[(false, [(.sl 3 [(.int .i64)])])], [(false, [.bool])], [], none⟩
noncomputable def c19 : Code := Try.f19.body.getD .skip
theorem b19 : Try.f19.body = some c19 := body_some (by kernel_rfl)
theorem n19 : (Try.f19.name == "runtime.NumGoroutine") = false := by kernel_rfl
def sg19 : List (FuncId × Sig) := []
def L19_0 : LoopSig := ⟨11900, [],
   ⟨[(.c (.x (.sl 3 [(.int .i64)]) (.var 0))), .any, (.c (.x .bool (.var 1))), (.c (.x (.int .i64) (.var 2))), .any, .any, .any, .any, .any, .any, .any, .any, .any, .any, .any, .any, .any, .any, .any, .any, .any, .any, .any, .any, .any, .any],
    []⟩,
   3, [1, 2], [7, 8, 9, 10, 13, 14, 15, 16, 17, 18, 19, 20, 21, 22, 23, 24, 25, 2, 11, 12, 3], [.ret, (.exit 0)], []⟩
def lt19 : List (Nat × LoopSig) := [(4, L19_0)]
theorem k19 : (Code.loops c19).length = 1 := by kernel_rfl
noncomputable def lb19_0 : Code := (Code.loops c19).getD 0 .skip
def rt19_0 : VT :=
  (.ite (.bin .lt (.var 2) (.un .len (.var 0)))
   (.need (.t true) (.c (.bin .le (.n 0) (.var 2)))
   (.ite (.ite (.bin .lt (.sel 0 (.var 0) (.var 2)) (.n (-1))) (.t true) (.bin .le (.var 2) (.sel 0 (.var 0) (.var 2))))
    (.ret (.cons (.n 0) (.cons (.t false) (.cons (.var 2) .nil))))
    (.ret (.cons (.n (-1)) (.cons (.var 1) (.cons (.bin (.add .i64) (.var 2) (.n 1)) .nil))))))
   (.ret (.cons (.n 1) (.cons (.var 1) (.cons (.var 2) .nil)))))
theorem le19_0 : (loopVT Try.prog (sgOf sg19) (ltOf lt19) L19_0 lb19_0).slim L19_0.nv [] = rt19_0 := by kernel_rfl
theorem lf19_0 : (firstRegion lb19_0).bind (ltOf lt19) = some L19_0 := by kernel_rfl
theorem lk19_0 : (Code.loops lb19_0).length = 0 := by kernel_rfl
def vt19 : VT :=
  (.ite (.bin .lt (.n 64) (.un .len (.var 0)))
   (.ret (.cons (.t false) .nil))
   (.need (.t true) (.pre 11900 (.cons (.var 0) (.cons (.t false) (.cons (.n 0) .nil))))
   (.lt (.app 11900 (.cons (.var 0) (.cons (.t false) (.cons (.n 0) .nil))) 0) 3
   (.ite (.bin .eq (.var 1) (.n 0))
    (.ret (.cons (.var 2) .nil))
    (.ret (.cons (.t true) .nil))))))
theorem e19 : (fnVT Try.prog (sgOf sg19) (ltOf lt19) S19 Try.f19 c19).slim (S19.ps.map fun p => p.2.length).sum [] = vt19 := by kernel_rfl

/-! ### 13 -/
def S13 : Sig := ⟨[(false, [(.sl 3 [(.int .i64)])])], [(false, [(.sl 3 [(.int .i64)])])], [], none⟩
noncomputable def c13 : Code := Try.f13.body.getD .skip
theorem b13 : Try.f13.body = some c13 := body_some (by kernel_rfl)
theorem n13 : (Try.f13.name == "runtime.NumGoroutine") = false := by kernel_rfl
def sg13 : List (FuncId × Sig) := [(19, S19)]
def L13_0 : LoopSig := ⟨11300, [],
   ⟨[(.c (.x (.sl 3 [(.int .i64)]) (.var 0))), .any, .any, (.c (.row 0 1)), (.c (.x (.int .i64) (.var 1))), .any, .any, .any, .any, .any, .any, .any, .any, .any, .any, .any, .any, .any, .any, .any, .any, .any, .any, .any, .any, .any, .any, .any, .any, .any, .any, .any, .any, .any, .any, .any, .any, .any, .any, .any, .any, .any, .any, .any, .any, .any, .any, .any, .any, .any],
    [some ⟨(.t true), (.row 3 [(.int .i64)] (.var 2) 1 false)⟩]⟩,
   3, [1, 2], [14, 15, 18, 19, 20, 21, 22, 23, 24, 25, 26, 27, 28, 29, 30, 31, 32, 33, 34, 35, 36, 37, 38, 39, 40, 41, 42, 43, 44, 45, 46, 47, 48, 16, 17, 4], [(.exit 0)], []⟩
def lt13 : List (Nat × LoopSig) := [(5, L13_0)]
theorem k13 : (Code.loops c13).length = 1 := by kernel_rfl
noncomputable def lb13_0 : Code := (Code.loops c13).getD 0 .skip
def rt13_0 : VT :=
  (.ite (.bin .le (.n 0) (.var 1))
   (.need (.t true) (.c (.bin .lt (.var 1) (.un .len (.var 2))))
   (.ite (.bin .eq (.sel 0 (.var 2) (.var 1)) (.n 0))
    (.need (.t true) (.c (.bin .lt (.var 1) (.un .len (.var 0))))
    (.ite (.bin .le (.n 0) (.sel 0 (.var 0) (.var 1)))
     (.need (.t true) (.c (.bin .lt (.sel 0 (.var 0) (.var 1)) (.un .len (.upd 0 (.var 2) (.var 1) (.cons (.n 1) .nil)))))
     (.need (.t true) (.c (.bin .lt (.var 1) (.un .len (.upd 0 (.var 2) (.var 1) (.cons (.n 1) .nil)))))
     (.ret (.cons (.n (-1)) (.cons (.bin (.sub .i64) (.var 1) (.n 1)) (.cons (.upd 0 (.upd 0 (.var 2) (.var 1) (.cons (.n 1) .nil)) (.sel 0 (.var 0) (.var 1)) (.cons (.bin (.add .i64) (.sel 0 (.upd 0 (.var 2) (.var 1) (.cons (.n 1) .nil)) (.sel 0 (.var 0) (.var 1))) (.sel 0 (.upd 0 (.var 2) (.var 1) (.cons (.n 1) .nil)) (.var 1))) .nil)) .nil))))))
     (.ret (.cons (.n (-1)) (.cons (.bin (.sub .i64) (.var 1) (.n 1)) (.cons (.upd 0 (.var 2) (.var 1) (.cons (.n 1) .nil)) .nil))))))
    (.need (.t true) (.c (.bin .lt (.var 1) (.un .len (.var 0))))
    (.ite (.bin .le (.n 0) (.sel 0 (.var 0) (.var 1)))
     (.need (.t true) (.c (.bin .lt (.sel 0 (.var 0) (.var 1)) (.un .len (.var 2))))
     (.ret (.cons (.n (-1)) (.cons (.bin (.sub .i64) (.var 1) (.n 1)) (.cons (.upd 0 (.var 2) (.sel 0 (.var 0) (.var 1)) (.cons (.bin (.add .i64) (.sel 0 (.var 2) (.sel 0 (.var 0) (.var 1))) (.sel 0 (.var 2) (.var 1))) .nil)) .nil)))))
     (.ret (.cons (.n (-1)) (.cons (.bin (.sub .i64) (.var 1) (.n 1)) (.cons (.var 2) .nil))))))))
   (.ret (.cons (.n 0) (.cons (.var 1) (.cons (.var 2) .nil)))))
theorem le13_0 : (loopVT Try.prog (sgOf sg13) (ltOf lt13) L13_0 lb13_0).slim L13_0.nv [] = rt13_0 := by kernel_rfl
theorem lf13_0 : (firstRegion lb13_0).bind (ltOf lt13) = some L13_0 := by kernel_rfl
theorem lk13_0 : (Code.loops lb13_0).length = 0 := by kernel_rfl
def vt13 : VT :=
  (.need (.t true) (.pre 19 (.cons (.var 0) .nil))
  (.lt (.app 19 (.cons (.var 0) .nil) 0) 1
  (.ite (.un .not (.var 1))
   (.ret (.cons .lnil .nil))
   (.need (.t true) (.c (.bin .le (.un .len (.var 0)) (.n 17592186044416)))
   (.need (.t true) (.pre 11300 (.cons (.var 0) (.cons (.bin (.sub .i64) (.un .len (.var 0)) (.n 1)) (.cons (.rep (.un .len (.var 0)) (.cons (.n 0) .nil)) .nil))))
   (.lt (.app 11300 (.cons (.var 0) (.cons (.bin (.sub .i64) (.un .len (.var 0)) (.n 1)) (.cons (.rep (.un .len (.var 0)) (.cons (.n 0) .nil)) .nil))) 0) 3
   (.ret (.cons (.var 4) .nil))))))))
theorem e13 : (fnVT Try.prog (sgOf sg13) (ltOf lt13) S13 Try.f13 c13).slim (S13.ps.map fun p => p.2.length).sum [] = vt13 := by kernel_rfl

/-! ### 24 -/
def S24 : Sig := ⟨[(false, [(.sl 3 [(.int .i64)])])], [(false, [(.sl 48 [(.int .i64), (.int .i64)])])], [], none⟩
noncomputable def c24 : Code := Try.f24.body.getD .skip
theorem b24 : Try.f24.body = some c24 := body_some (by kernel_rfl)
theorem n24 : (Try.f24.name == "runtime.NumGoroutine") = false := by kernel_rfl
def sg24 : List (FuncId × Sig) := [(13, S13)]
def L24_0 : LoopSig := ⟨12401, [],
   ⟨[(.c (.x (.sl 3 [(.int .i64)]) (.var 0))), .any, .any, (.c (.x (.sl 3 [(.int .i64)]) (.var 1))), (.c (.row 0 1)), (.c (.x (.int .i64) (.var 2))), .any, .any, .any, .any, .any, .any, .any, .any, .any, .any, .any, .any, .any, .any, .any, .any, .any, .any, .any, .any, .any, .any, .any, .any, .any, .any, .any, .any, .any, .any, .any, .any, .any, .any, .any, .any, .any, .any, .any, .any, .any, .any, .any, .any, .any, .any, .any, .any, .any, .any, .any, .any, .any, .any, .any, .any, .any, .any, .any, .any, .any, .any, .any, .any, .any, .any, .any, .any, .any, .any, .any, .any, .any, .any, .any, .any, .any, .any, .any, .any, .any, .any, .any, .any, .any, .any, .any, .any],
    [some ⟨(.t true), (.row 48 [(.int .i64), (.int .i64)] (.var 3) 1 false)⟩]⟩,
   4, [2, 3], [14, 15, 16, 17, 20, 6, 21, 22, 23, 24, 25, 26, 27, 28, 29, 30, 31, 32, 7, 8, 9, 33, 34, 35, 36, 39, 40, 41, 42, 43, 44, 45, 46, 47, 48, 49, 50, 51, 52, 53, 54, 55, 56, 57, 58, 59, 60, 61, 62, 37, 38, 63, 64, 65, 66, 67, 10, 68, 69, 70, 71, 72, 73, 74, 75, 76, 77, 78, 79, 80, 81, 82, 83, 84, 85, 86, 87, 88, 89, 90, 91, 92, 4, 18, 19, 5], [(.exit 0)], [3]⟩
def L24_1 : LoopSig := ⟨12400, [],
   ⟨[(.c (.x (.sl 3 [(.int .i64)]) (.var 0))), .any, .any, (.c (.x (.sl 3 [(.int .i64)]) (.var 1))), .any, (.c (.x (.int .i64) (.var 2))), .any, (.c (.x (.int .i64) (.var 3))), (.c (.x (.int .i64) (.var 4))), (.c (.x (.int .i64) (.var 5))), .any, .any, .any, .any, .any, .any, .any, .any, .any, .any, .any, .any, .any, .any, .any, .any, .any, .any, .any, .any, .any, .any, .any, .any, .any, .any, .any, .any, .any, .any, .any, .any, .any, .any, .any, .any, .any, .any, .any, .any, .any, .any, .any, .any, .any, .any, .any, .any, .any, .any, .any, .any, .any, .any, .any, .any, .any, .any, .any, .any, .any, .any, .any, .any, .any, .any, .any, .any, .any, .any, .any, .any, .any, .any, .any, .any, .any, .any, .any, .any, .any, .any, .any, .any],
    [none, none]⟩,
   6, [3, 4, 5], [33, 34, 35, 36, 39, 40, 41, 42, 43, 44, 45, 46, 47, 48, 49, 50, 51, 52, 53, 7, 54, 55, 56, 57, 58, 59, 60, 61, 62, 8, 37, 38, 9], [(.exit 2)], []⟩
def lt24 : List (Nat × LoopSig) := [(4, L24_0), (11, L24_1)]
theorem k24 : (Code.loops c24).length = 2 := by kernel_rfl
noncomputable def lb24_0 : Code := (Code.loops c24).getD 0 .skip
noncomputable def lb24_1 : Code := (Code.loops c24).getD 1 .skip
def rt24_0 : VT :=
  (.ite (.bin .lt (.var 2) (.un .len (.var 0)))
   (.need (.t true) (.c (.bin .le (.n 0) (.var 2)))
   (.ite (.bin .le (.n 0) (.sel 0 (.var 0) (.var 2)))
    (.need (.t true) (.c (.bin .lt (.sel 0 (.var 0) (.var 2)) (.un .len (.var 3))))
    (.need (.t true) (.pre 12400 (.cons (.var 0) (.cons (.var 1) (.cons (.var 2) (.cons (.n 0) (.cons (.n 0) (.cons (.n 0) .nil)))))))
    (.lt (.app 12400 (.cons (.var 0) (.cons (.var 1) (.cons (.var 2) (.cons (.n 0) (.cons (.n 0) (.cons (.n 0) .nil)))))) 0) 4
    (.need (.t true) (.c (.un .not (.bin .eq (.var 5) (.n 0))))
    (.need (.t true) (.c (.bin .lt (.var 2) (.un .len (.var 1))))
    (.need (.t true) (.c (.bin .le (.un .len (.bin .cat (.var 3) (.lcons (.cons (.bin (.add .i64) (.sel 0 (.var 3) (.sel 0 (.var 0) (.var 2))) (.bin (.quo .i64) (.bin (.mul .i64) (.var 6) (.bin (.sub .i64) (.sel 1 (.var 3) (.sel 0 (.var 0) (.var 2))) (.sel 0 (.var 3) (.sel 0 (.var 0) (.var 2))))) (.var 5))) (.cons (.bin (.add .i64) (.sel 0 (.var 3) (.sel 0 (.var 0) (.var 2))) (.bin (.quo .i64) (.bin (.mul .i64) (.bin (.add .i64) (.var 6) (.sel 0 (.var 1) (.var 2))) (.bin (.sub .i64) (.sel 1 (.var 3) (.sel 0 (.var 0) (.var 2))) (.sel 0 (.var 3) (.sel 0 (.var 0) (.var 2))))) (.var 5))) .nil)) .lnil))) (.n 8796093022208)))
    (.ret (.cons (.n (-1)) (.cons (.bin (.add .i64) (.var 2) (.n 1)) (.cons (.bin .cat (.var 3) (.lcons (.cons (.bin (.add .i64) (.sel 0 (.var 3) (.sel 0 (.var 0) (.var 2))) (.bin (.quo .i64) (.bin (.mul .i64) (.var 6) (.bin (.sub .i64) (.sel 1 (.var 3) (.sel 0 (.var 0) (.var 2))) (.sel 0 (.var 3) (.sel 0 (.var 0) (.var 2))))) (.var 5))) (.cons (.bin (.add .i64) (.sel 0 (.var 3) (.sel 0 (.var 0) (.var 2))) (.bin (.quo .i64) (.bin (.mul .i64) (.bin (.add .i64) (.var 6) (.sel 0 (.var 1) (.var 2))) (.bin (.sub .i64) (.sel 1 (.var 3) (.sel 0 (.var 0) (.var 2))) (.sel 0 (.var 3) (.sel 0 (.var 0) (.var 2))))) (.var 5))) .nil)) .lnil)) .nil))))))))))
    (.need (.t true) (.pre 12400 (.cons (.var 0) (.cons (.var 1) (.cons (.var 2) (.cons (.n 0) (.cons (.n 0) (.cons (.n 0) .nil)))))))
    (.lt (.app 12400 (.cons (.var 0) (.cons (.var 1) (.cons (.var 2) (.cons (.n 0) (.cons (.n 0) (.cons (.n 0) .nil)))))) 0) 4
    (.need (.t true) (.c (.un .not (.bin .eq (.var 5) (.n 0))))
    (.need (.t true) (.c (.bin .lt (.var 2) (.un .len (.var 1))))
    (.need (.t true) (.c (.bin .le (.un .len (.bin .cat (.var 3) (.lcons (.cons (.bin (.add .i64) (.n 0) (.bin (.quo .i64) (.bin (.mul .i64) (.var 6) (.bin (.sub .i64) (.n 360) (.n 0))) (.var 5))) (.cons (.bin (.add .i64) (.n 0) (.bin (.quo .i64) (.bin (.mul .i64) (.bin (.add .i64) (.var 6) (.sel 0 (.var 1) (.var 2))) (.bin (.sub .i64) (.n 360) (.n 0))) (.var 5))) .nil)) .lnil))) (.n 8796093022208)))
    (.ret (.cons (.n (-1)) (.cons (.bin (.add .i64) (.var 2) (.n 1)) (.cons (.bin .cat (.var 3) (.lcons (.cons (.bin (.add .i64) (.n 0) (.bin (.quo .i64) (.bin (.mul .i64) (.var 6) (.bin (.sub .i64) (.n 360) (.n 0))) (.var 5))) (.cons (.bin (.add .i64) (.n 0) (.bin (.quo .i64) (.bin (.mul .i64) (.bin (.add .i64) (.var 6) (.sel 0 (.var 1) (.var 2))) (.bin (.sub .i64) (.n 360) (.n 0))) (.var 5))) .nil)) .lnil)) .nil)))))))))))
   (.ret (.cons (.n 0) (.cons (.var 2) (.cons (.var 3) .nil)))))
theorem le24_0 : (loopVT Try.prog (sgOf sg24) (ltOf lt24) L24_0 lb24_0).slim L24_0.nv [] = rt24_0 := by kernel_rfl
theorem lf24_0 : (firstRegion lb24_0).bind (ltOf lt24) = some L24_0 := by kernel_rfl
theorem lk24_0 : (Code.loops lb24_0).length = 1 := by kernel_rfl
theorem li24_0_0 : (Code.loops lb24_0).getD 0 .skip = lb24_1 := by kernel_rfl
def rt24_1 : VT :=
  (.ite (.bin .lt (.var 5) (.un .len (.var 0)))
   (.need (.t true) (.c (.bin .le (.n 0) (.var 5)))
   (.need (.t true) (.c (.bin .le (.n 0) (.var 2)))
   (.need (.t true) (.c (.bin .lt (.var 2) (.un .len (.var 0))))
   (.ite (.bin .eq (.sel 0 (.var 0) (.var 5)) (.sel 0 (.var 0) (.var 2)))
    (.need (.t true) (.c (.bin .lt (.var 5) (.un .len (.var 1))))
    (.ite (.bin .lt (.var 5) (.var 2))
     (.ret (.cons (.n (-1)) (.cons (.bin (.add .i64) (.var 3) (.sel 0 (.var 1) (.var 5))) (.cons (.bin (.add .i64) (.var 4) (.sel 0 (.var 1) (.var 5))) (.cons (.bin (.add .i64) (.var 5) (.n 1)) .nil)))))
     (.ret (.cons (.n (-1)) (.cons (.bin (.add .i64) (.var 3) (.sel 0 (.var 1) (.var 5))) (.cons (.var 4) (.cons (.bin (.add .i64) (.var 5) (.n 1)) .nil)))))))
    (.ret (.cons (.n (-1)) (.cons (.var 3) (.cons (.var 4) (.cons (.bin (.add .i64) (.var 5) (.n 1)) .nil)))))))))
   (.ret (.cons (.n 0) (.cons (.var 3) (.cons (.var 4) (.cons (.var 5) .nil))))))
theorem le24_1 : (loopVT Try.prog (sgOf sg24) (ltOf lt24) L24_1 lb24_1).slim L24_1.nv [] = rt24_1 := by kernel_rfl
theorem lf24_1 : (firstRegion lb24_1).bind (ltOf lt24) = some L24_1 := by kernel_rfl
theorem lk24_1 : (Code.loops lb24_1).length = 0 := by kernel_rfl
def vt24 : VT :=
  (.need (.t true) (.pre 13 (.cons (.var 0) .nil))
  (.lt (.app 13 (.cons (.var 0) .nil) 0) 1
  (.need (.t true) (.pre 12401 (.cons (.var 0) (.cons (.var 1) (.cons (.n 0) (.cons .lnil .nil)))))
  (.lt (.app 12401 (.cons (.var 0) (.cons (.var 1) (.cons (.n 0) (.cons .lnil .nil)))) 0) 3
  (.ret (.cons (.var 4) .nil))))))
theorem e24 : (fnVT Try.prog (sgOf sg24) (ltOf lt24) S24 Try.f24 c24).slim (S24.ps.map fun p => p.2.length).sum [] = vt24 := by kernel_rfl

/-! ### 10 -/
def S10 : Sig := ⟨[(false, [(.sl 3 [(.int .i64)])])], [(false, [(.sl 3 [(.int .i64)])]), (false, [(.int .i64)])], [], none⟩
noncomputable def c10 : Code := Try.f10.body.getD .skip
theorem b10 : Try.f10.body = some c10 := body_some (by kernel_rfl)
theorem n10 : (Try.f10.name == "runtime.NumGoroutine") = false := by kernel_rfl
def sg10 : List (FuncId × Sig) := [(19, S19), (24, S24)]
def L10_0 : LoopSig := ⟨11000, [],
   ⟨[.any, .any, .any, .any, (.c (.row 0 1)), (.c (.x (.sl 48 [(.int .i64), (.int .i64)]) (.var 0))), (.c (.x (.int .i64) (.var 1))), .any, .any, .any, .any, .any, .any, .any, .any, .any, .any, .any, .any, .any, .any, .any, .any, .any, .any, .any, .any, .any, .any, .any, .any, .any, .any, .any, .any, .any, .any, .any, .any, .any, .any],
    [some ⟨(.t true), (.row 3 [(.int .i64)] (.var 2) 1 false)⟩]⟩,
   3, [1, 2], [13, 14, 15, 16, 19, 20, 21, 22, 23, 24, 25, 26, 27, 28, 29, 30, 31, 32, 33, 34, 35, 36, 37, 38, 39, 4, 17, 18, 6], [(.exit 0)], [2]⟩
def lt10 : List (Nat × LoopSig) := [(6, L10_0)]
theorem k10 : (Code.loops c10).length = 1 := by kernel_rfl
noncomputable def lb10_0 : Code := (Code.loops c10).getD 0 .skip
def rt10_0 : VT :=
  (.ite (.bin .lt (.var 1) (.un .len (.var 0)))
   (.need (.t true) (.c (.bin .le (.n 0) (.var 1)))
   (.need (.t true) (.c (.bin .le (.un .len (.bin .cat (.var 2) (.lcons (.cons (.bin (.add .i64) (.sel 0 (.var 0) (.var 1)) (.bin (.quo .i64) (.bin (.sub .i64) (.sel 1 (.var 0) (.var 1)) (.sel 0 (.var 0) (.var 1))) (.n 2))) .nil) .lnil))) (.n 17592186044416)))
   (.ret (.cons (.n (-1)) (.cons (.bin (.add .i64) (.var 1) (.n 1)) (.cons (.bin .cat (.var 2) (.lcons (.cons (.bin (.add .i64) (.sel 0 (.var 0) (.var 1)) (.bin (.quo .i64) (.bin (.sub .i64) (.sel 1 (.var 0) (.var 1)) (.sel 0 (.var 0) (.var 1))) (.n 2))) .nil) .lnil)) .nil))))))
   (.ret (.cons (.n 0) (.cons (.var 1) (.cons (.var 2) .nil)))))
theorem le10_0 : (loopVT Try.prog (sgOf sg10) (ltOf lt10) L10_0 lb10_0).slim L10_0.nv [] = rt10_0 := by kernel_rfl
theorem lf10_0 : (firstRegion lb10_0).bind (ltOf lt10) = some L10_0 := by kernel_rfl
theorem lk10_0 : (Code.loops lb10_0).length = 0 := by kernel_rfl
def vt10 : VT :=
  (.need (.t true) (.pre 19 (.cons (.var 0) .nil))
  (.lt (.app 19 (.cons (.var 0) .nil) 0) 1
  (.ite (.un .not (.var 1))
   (.ret (.cons .lnil (.cons (.n 1) .nil)))
   (.need (.t true) (.pre 24 (.cons (.var 0) .nil))
   (.lt (.app 24 (.cons (.var 0) .nil) 0) 1
   (.need (.t true) (.pre 11000 (.cons (.var 2) (.cons (.n 0) (.cons .lnil .nil))))
   (.lt (.app 11000 (.cons (.var 2) (.cons (.n 0) (.cons .lnil .nil))) 0) 3
   (.ret (.cons (.var 5) (.cons (.n 0) .nil))))))))))
theorem e10 : (fnVT Try.prog (sgOf sg10) (ltOf lt10) S10 Try.f10 c10).slim (S10.ps.map fun p => p.2.length).sum [] = vt10 := by kernel_rfl

/-! ### 3 -/
def S3 : Sig := ⟨[(false, [(.sl 3 [(.int .i64)])])], [(false, [.bool])], [], none⟩
noncomputable def c3 : Code := Try.f3.body.getD .skip
theorem b3 : Try.f3.body = some c3 := body_some (by kernel_rfl)
theorem n3 : (Try.f3.name == "runtime.NumGoroutine") = false := by kernel_rfl
def sg3 : List (FuncId × Sig) := [(8, S8), (9, S9), (10, S10), (12, S12), (13, S13), (11, S11)]
def lt3 : List (Nat × LoopSig) := []
theorem k3 : (Code.loops c3).length = 0 := by kernel_rfl
def vt3 : VT :=
  (.ite (.bin .lt (.n 80) (.un .len (.var 0)))
   (.need (.t true) (.pre 8 .nil)
   (.lt (.app 8 .nil 0) 1
   (.ret (.cons (.var 1) .nil))))
   (.need (.t true) (.pre 9 (.cons (.var 0) .nil))
   (.lt (.app 9 (.cons (.var 0) .nil) 0) 2
   (.need (.t true) (.pre 10 (.cons (.var 0) .nil))
   (.lt (.app 10 (.cons (.var 0) .nil) 0) 2
   (.need (.t true) (.pre 12 (.cons (.var 0) .nil))
   (.lt (.app 12 (.cons (.var 0) .nil) 0) 1
   (.need (.t true) (.pre 13 (.cons (.var 0) .nil))
   (.lt (.app 13 (.cons (.var 0) .nil) 0) 1
   (.need (.t true) (.pre 11 (.cons (.var 5) (.cons (.var 6) .nil)))
   (.lt (.app 11 (.cons (.var 5) (.cons (.var 6) .nil)) 0) 1
   (.need (.ite (.var 7) (.bin .eq (.var 2) (.var 4)) (.t false)) (.pre 11 (.cons (.var 1) (.cons (.var 3) .nil)))
   (.lt (.app 11 (.cons (.var 1) (.cons (.var 3) .nil)) 0) 1
   (.need (.ite (.ite (.var 7) (.bin .eq (.var 2) (.var 4)) (.t false)) (.var 8) (.t false)) (.pre 8 .nil)
   (.lt (.app 8 .nil 0) 1
   (.ret (.cons (.ite (.ite (.ite (.var 7) (.bin .eq (.var 2) (.var 4)) (.t false)) (.var 8) (.t false)) (.var 9) (.t false)) .nil)))))))))))))))))
theorem e3 : (fnVT Try.prog (sgOf sg3) (ltOf lt3) S3 Try.f3 c3).slim (S3.ps.map fun p => p.2.length).sum [] = vt3 := by kernel_rfl

/-! ### 20 -/
def S20 : Sig := ⟨[(false, [(.sl 3 [(.int .i64)])])], [(false, [(.sl 3 [(.int .i64)])])], [], none⟩
noncomputable def c20 : Code := Try.f20.body.getD .skip
theorem b20 : Try.f20.body = some c20 := body_some (by kernel_rfl)
theorem n20 : (Try.f20.name == "runtime.NumGoroutine") = false := by kernel_rfl
def sg20 : List (FuncId × Sig) := []
def L20_0 : LoopSig := ⟨12000, [],
   ⟨[(.c (.x (.sl 3 [(.int .i64)]) (.var 0))), .any, .any, (.c (.x (.int .i64) (.var 1))), (.c (.x (.int .i64) (.var 2))), .any, .any, .any, .any, .any, .any, .any, .any, .any, .any, .any, .any, .any, .any, .any, .any, .any, .any, .any, .any, .any, .any, .any, .any, .any, .any, .any, .any, .any, .any, .any, .any, .any, .any, .any, .any, .any, .any, .any, .any, .any, .any, .any],
    []⟩,
   3, [1, 2], [8, 9, 10, 11, 14, 15, 16, 17, 18, 19, 20, 3, 12, 13, 4], [(.exit 0)], []⟩
def L20_1 : LoopSig := ⟨12001, [],
   ⟨[(.c (.x (.sl 3 [(.int .i64)]) (.var 0))), .any, .any, (.c (.x (.int .i64) (.var 1))), .any, (.c (.row 0 1)), (.c (.x (.int .i64) (.var 2))), .any, .any, .any, .any, .any, .any, .any, .any, .any, .any, .any, .any, .any, .any, .any, .any, .any, .any, .any, .any, .any, .any, .any, .any, .any, .any, .any, .any, .any, .any, .any, .any, .any, .any, .any, .any, .any, .any, .any, .any, .any],
    [some ⟨(.t true), (.row 3 [(.int .i64)] (.var 3) 1 false)⟩]⟩,
   4, [2, 3], [22, 23, 24, 25, 7, 28, 29, 30, 31, 32, 33, 34, 35, 36, 37, 38, 39, 40, 41, 42, 43, 44, 45, 46, 5, 26, 27, 6], [(.exit 2)], [3]⟩
def lt20 : List (Nat × LoopSig) := [(3, L20_0), (9, L20_1)]
theorem k20 : (Code.loops c20).length = 2 := by kernel_rfl
noncomputable def lb20_0 : Code := (Code.loops c20).getD 0 .skip
noncomputable def lb20_1 : Code := (Code.loops c20).getD 1 .skip
def rt20_0 : VT :=
  (.ite (.bin .lt (.var 2) (.un .len (.var 0)))
   (.need (.t true) (.c (.bin .le (.n 0) (.var 2)))
   (.ite (.bin .lt (.sel 0 (.var 0) (.var 2)) (.n 0))
    (.ret (.cons (.n (-1)) (.cons (.bin (.add .i64) (.var 1) (.n 1)) (.cons (.bin (.add .i64) (.var 2) (.n 1)) .nil))))
    (.ret (.cons (.n (-1)) (.cons (.var 1) (.cons (.bin (.add .i64) (.var 2) (.n 1)) .nil))))))
   (.ret (.cons (.n 0) (.cons (.var 1) (.cons (.var 2) .nil)))))
theorem le20_0 : (loopVT Try.prog (sgOf sg20) (ltOf lt20) L20_0 lb20_0).slim L20_0.nv [] = rt20_0 := by kernel_rfl
theorem lf20_0 : (firstRegion lb20_0).bind (ltOf lt20) = some L20_0 := by kernel_rfl
theorem lk20_0 : (Code.loops lb20_0).length = 0 := by kernel_rfl
def rt20_1 : VT :=
  (.ite (.bin .lt (.var 2) (.un .len (.var 0)))
   (.ite (.bin .lt (.n 1) (.var 1))
    (.need (.t true) (.c (.bin .le (.n 0) (.var 2)))
    (.ite (.bin .le (.n 0) (.sel 0 (.var 0) (.var 2)))
     (.need (.t true) (.c (.bin .lt (.sel 0 (.var 0) (.var 2)) (.un .len (.var 3))))
     (.need (.t true) (.c (.bin .le (.un .len (.bin .cat (.var 3) (.lcons (.cons (.bin (.add .i64) (.sel 0 (.var 3) (.sel 0 (.var 0) (.var 2))) (.n 1)) .nil) .lnil))) (.n 17592186044416)))
     (.ret (.cons (.n (-1)) (.cons (.bin (.add .i64) (.var 2) (.n 1)) (.cons (.bin .cat (.var 3) (.lcons (.cons (.bin (.add .i64) (.sel 0 (.var 3) (.sel 0 (.var 0) (.var 2))) (.n 1)) .nil) .lnil)) .nil))))))
     (.need (.t true) (.c (.bin .le (.un .len (.bin .cat (.var 3) (.lcons (.cons (.n 1) .nil) .lnil))) (.n 17592186044416)))
     (.ret (.cons (.n (-1)) (.cons (.bin (.add .i64) (.var 2) (.n 1)) (.cons (.bin .cat (.var 3) (.lcons (.cons (.n 1) .nil) .lnil)) .nil)))))))
    (.need (.t true) (.c (.bin .le (.n 0) (.var 2)))
    (.ite (.bin .le (.n 0) (.sel 0 (.var 0) (.var 2)))
     (.need (.t true) (.c (.bin .lt (.sel 0 (.var 0) (.var 2)) (.un .len (.var 3))))
     (.need (.t true) (.c (.bin .le (.un .len (.bin .cat (.var 3) (.lcons (.cons (.bin (.add .i64) (.sel 0 (.var 3) (.sel 0 (.var 0) (.var 2))) (.n 1)) .nil) .lnil))) (.n 17592186044416)))
     (.ret (.cons (.n (-1)) (.cons (.bin (.add .i64) (.var 2) (.n 1)) (.cons (.bin .cat (.var 3) (.lcons (.cons (.bin (.add .i64) (.sel 0 (.var 3) (.sel 0 (.var 0) (.var 2))) (.n 1)) .nil) .lnil)) .nil))))))
     (.need (.t true) (.c (.bin .le (.un .len (.bin .cat (.var 3) (.lcons (.cons (.n 0) .nil) .lnil))) (.n 17592186044416)))
     (.ret (.cons (.n (-1)) (.cons (.bin (.add .i64) (.var 2) (.n 1)) (.cons (.bin .cat (.var 3) (.lcons (.cons (.n 0) .nil) .lnil)) .nil))))))))
   (.ret (.cons (.n 0) (.cons (.var 2) (.cons (.var 3) .nil)))))
theorem le20_1 : (loopVT Try.prog (sgOf sg20) (ltOf lt20) L20_1 lb20_1).slim L20_1.nv [] = rt20_1 := by kernel_rfl
theorem lf20_1 : (firstRegion lb20_1).bind (ltOf lt20) = some L20_1 := by kernel_rfl
theorem lk20_1 : (Code.loops lb20_1).length = 0 := by kernel_rfl
def vt20 : VT :=
  (.need (.t true) (.pre 12000 (.cons (.var 0) (.cons (.n 0) (.cons (.n 0) .nil))))
  (.lt (.app 12000 (.cons (.var 0) (.cons (.n 0) (.cons (.n 0) .nil))) 0) 3
  (.need (.t true) (.pre 12001 (.cons (.var 0) (.cons (.var 2) (.cons (.n 0) (.cons .lnil .nil)))))
  (.lt (.app 12001 (.cons (.var 0) (.cons (.var 2) (.cons (.n 0) (.cons .lnil .nil)))) 0) 3
  (.ret (.cons (.var 6) .nil))))))
theorem e20 : (fnVT Try.prog (sgOf sg20) (ltOf lt20) S20 Try.f20 c20).slim (S20.ps.map fun p => p.2.length).sum [] = vt20 := by kernel_rfl

/-! ### 33 -/
def S33 : Sig := ⟨[(true, [(.int .i64), (.int .i64)])], [(false, [.bool])], [], none⟩
noncomputable def c33 : Code := Try.f33.body.getD .skip
theorem b33 : Try.f33.body = some c33 := body_some (by kernel_rfl)
theorem n33 : (Try.f33.name == "runtime.NumGoroutine") = false := by kernel_rfl
def sg33 : List (FuncId × Sig) := []
def lt33 : List (Nat × LoopSig) := []
theorem k33 : (Code.loops c33).length = 0 := by kernel_rfl
def vt33 : VT :=
  (.ret (.cons (.ite (.ite (.ite (.bin .le (.n (-268435456)) (.var 0)) (.bin .le (.var 0) (.n 268435456)) (.t false)) (.bin .le (.n (-268435456)) (.var 1)) (.t false)) (.bin .le (.var 1) (.n 268435456)) (.t false)) .nil))
theorem e33 : (fnVT Try.prog (sgOf sg33) (ltOf lt33) S33 Try.f33 c33).slim (S33.ps.map fun p => p.2.length).sum [] = vt33 := by kernel_rfl
def T33 : FuncId → List D → List D := tabOf []
def fn33 (ρ : List D) : List D := vt33.val T33 ρ
theorem m33 : Meets Try.prog 33 S33 (fun _ => True) fn33 := meets_easy (sgl := sg33) (Φ := T33) mixed ((fun _ h => nomatch h)) Try.func33 b33 n33 k33 e33 (by kernel_rfl)

/-! ### 40 -/
def S40 : Sig := ⟨[(false, [(.int .i64)])], [(false, [(.int .i64)])], [], none⟩
noncomputable def c40 : Code := Try.f40.body.getD .skip
theorem b40 : Try.f40.body = some c40 := body_some (by kernel_rfl)
theorem n40 : (Try.f40.name == "runtime.NumGoroutine") = false := by kernel_rfl
def sg40 : List (FuncId × Sig) := []
def lt40 : List (Nat × LoopSig) := []
theorem k40 : (Code.loops c40).length = 0 := by kernel_rfl
def vt40 : VT :=
  (.ret (.cons (.bin (.rem .i64) (.bin (.add .i64) (.bin (.rem .i64) (.var 0) (.n 360)) (.n 360)) (.n 360)) .nil))
theorem e40 : (fnVT Try.prog (sgOf sg40) (ltOf lt40) S40 Try.f40 c40).slim (S40.ps.map fun p => p.2.length).sum [] = vt40 := by kernel_rfl
def T40 : FuncId → List D → List D := tabOf []
def fn40 (ρ : List D) : List D := vt40.val T40 ρ
theorem m40 : Meets Try.prog 40 S40 (fun _ => True) fn40 := meets_easy (sgl := sg40) (Φ := T40) mixed ((fun _ h => nomatch h)) Try.func40 b40 n40 k40 e40 (by kernel_rfl)

/-! ### 42 -/
def S42 : Sig := ⟨[(false, [(.int .i64)])], [(false, [(.int .i64)])], [], none⟩
noncomputable def c42 : Code := Try.f42.body.getD .skip
theorem b42 : Try.f42.body = some c42 := body_some (by kernel_rfl)
theorem n42 : (Try.f42.name == "runtime.NumGoroutine") = false := by kernel_rfl
def sg42 : List (FuncId × Sig) := []
def lt42 : List (Nat × LoopSig) := []
theorem k42 : (Code.loops c42).length = 0 := by kernel_rfl
def vt42 : VT :=
  (.need (.t true) (.c (.bin .le (.n 0) (.var 0)))
  (.need (.t true) (.c (.bin .lt (.var 0) (.un .len (.lcons (.cons (.n 0) .nil) (.lcons (.cons (.n 175) .nil) (.lcons (.cons (.n 349) .nil) (.lcons (.cons (.n 523) .nil) (.lcons (.cons (.n 698) .nil) (.lcons (.cons (.n 872) .nil) (.lcons (.cons (.n 1045) .nil) (.lcons (.cons (.n 1219) .nil) (.lcons (.cons (.n 1392) .nil) (.lcons (.cons (.n 1564) .nil) (.lcons (.cons (.n 1736) .nil) (.lcons (.cons (.n 1908) .nil) (.lcons (.cons (.n 2079) .nil) (.lcons (.cons (.n 2250) .nil) (.lcons (.cons (.n 2419) .nil) (.lcons (.cons (.n 2588) .nil) (.lcons (.cons (.n 2756) .nil) (.lcons (.cons (.n 2924) .nil) (.lcons (.cons (.n 3090) .nil) (.lcons (.cons (.n 3256) .nil) (.lcons (.cons (.n 3420) .nil) (.lcons (.cons (.n 3584) .nil) (.lcons (.cons (.n 3746) .nil) (.lcons (.cons (.n 3907) .nil) (.lcons (.cons (.n 4067) .nil) (.lcons (.cons (.n 4226) .nil) (.lcons (.cons (.n 4384) .nil) (.lcons (.cons (.n 4540) .nil) (.lcons (.cons (.n 4695) .nil) (.lcons (.cons (.n 4848) .nil) (.lcons (.cons (.n 5000) .nil) (.lcons (.cons (.n 5150) .nil) (.lcons (.cons (.n 5299) .nil) (.lcons (.cons (.n 5446) .nil) (.lcons (.cons (.n 5592) .nil) (.lcons (.cons (.n 5736) .nil) (.lcons (.cons (.n 5878) .nil) (.lcons (.cons (.n 6018) .nil) (.lcons (.cons (.n 6157) .nil) (.lcons (.cons (.n 6293) .nil) (.lcons (.cons (.n 6428) .nil) (.lcons (.cons (.n 6561) .nil) (.lcons (.cons (.n 6691) .nil) (.lcons (.cons (.n 6820) .nil) (.lcons (.cons (.n 6947) .nil) (.lcons (.cons (.n 7071) .nil) (.lcons (.cons (.n 7193) .nil) (.lcons (.cons (.n 7314) .nil) (.lcons (.cons (.n 7431) .nil) (.lcons (.cons (.n 7547) .nil) (.lcons (.cons (.n 7660) .nil) (.lcons (.cons (.n 7771) .nil) (.lcons (.cons (.n 7880) .nil) (.lcons (.cons (.n 7986) .nil) (.lcons (.cons (.n 8090) .nil) (.lcons (.cons (.n 8192) .nil) (.lcons (.cons (.n 8290) .nil) (.lcons (.cons (.n 8387) .nil) (.lcons (.cons (.n 8480) .nil) (.lcons (.cons (.n 8572) .nil) (.lcons (.cons (.n 8660) .nil) (.lcons (.cons (.n 8746) .nil) (.lcons (.cons (.n 8829) .nil) (.lcons (.cons (.n 8910) .nil) (.lcons (.cons (.n 8988) .nil) (.lcons (.cons (.n 9063) .nil) (.lcons (.cons (.n 9135) .nil) (.lcons (.cons (.n 9205) .nil) (.lcons (.cons (.n 9272) .nil) (.lcons (.cons (.n 9336) .nil) (.lcons (.cons (.n 9397) .nil) (.lcons (.cons (.n 9455) .nil) (.lcons (.cons (.n 9511) .nil) (.lcons (.cons (.n 9563) .nil) (.lcons (.cons (.n 9613) .nil) (.lcons (.cons (.n 9659) .nil) (.lcons (.cons (.n 9703) .nil) (.lcons (.cons (.n 9744) .nil) (.lcons (.cons (.n 9781) .nil) (.lcons (.cons (.n 9816) .nil) (.lcons (.cons (.n 9848) .nil) (.lcons (.cons (.n 9877) .nil) (.lcons (.cons (.n 9903) .nil) (.lcons (.cons (.n 9925) .nil) (.lcons (.cons (.n 9945) .nil) (.lcons (.cons (.n 9962) .nil) (.lcons (.cons (.n 9976) .nil) (.lcons (.cons (.n 9986) .nil) (.lcons (.cons (.n 9994) .nil) (.lcons (.cons (.n 9998) .nil) (.lcons (.cons (.n 10000) .nil) .lnil))))))))))))))))))))))))))))))))))))))))))))))))))))))))))))))))))))))))))))))))))))))))))))))
  (.ret (.cons (.sel 0 (.lcons (.cons (.n 0) .nil) (.lcons (.cons (.n 175) .nil) (.lcons (.cons (.n 349) .nil) (.lcons (.cons (.n 523) .nil) (.lcons (.cons (.n 698) .nil) (.lcons (.cons (.n 872) .nil) (.lcons (.cons (.n 1045) .nil) (.lcons (.cons (.n 1219) .nil) (.lcons (.cons (.n 1392) .nil) (.lcons (.cons (.n 1564) .nil) (.lcons (.cons (.n 1736) .nil) (.lcons (.cons (.n 1908) .nil) (.lcons (.cons (.n 2079) .nil) (.lcons (.cons (.n 2250) .nil) (.lcons (.cons (.n 2419) .nil) (.lcons (.cons (.n 2588) .nil) (.lcons (.cons (.n 2756) .nil) (.lcons (.cons (.n 2924) .nil) (.lcons (.cons (.n 3090) .nil) (.lcons (.cons (.n 3256) .nil) (.lcons (.cons (.n 3420) .nil) (.lcons (.cons (.n 3584) .nil) (.lcons (.cons (.n 3746) .nil) (.lcons (.cons (.n 3907) .nil) (.lcons (.cons (.n 4067) .nil) (.lcons (.cons (.n 4226) .nil) (.lcons (.cons (.n 4384) .nil) (.lcons (.cons (.n 4540) .nil) (.lcons (.cons (.n 4695) .nil) (.lcons (.cons (.n 4848) .nil) (.lcons (.cons (.n 5000) .nil) (.lcons (.cons (.n 5150) .nil) (.lcons (.cons (.n 5299) .nil) (.lcons (.cons (.n 5446) .nil) (.lcons (.cons (.n 5592) .nil) (.lcons (.cons (.n 5736) .nil) (.lcons (.cons (.n 5878) .nil) (.lcons (.cons (.n 6018) .nil) (.lcons (.cons (.n 6157) .nil) (.lcons (.cons (.n 6293) .nil) (.lcons (.cons (.n 6428) .nil) (.lcons (.cons (.n 6561) .nil) (.lcons (.cons (.n 6691) .nil) (.lcons (.cons (.n 6820) .nil) (.lcons (.cons (.n 6947) .nil) (.lcons (.cons (.n 7071) .nil) (.lcons (.cons (.n 7193) .nil) (.lcons (.cons (.n 7314) .nil) (.lcons (.cons (.n 7431) .nil) (.lcons (.cons (.n 7547) .nil) (.lcons (.cons (.n 7660) .nil) (.lcons (.cons (.n 7771) .nil) (.lcons (.cons (.n 7880) .nil) (.lcons (.cons (.n 7986) .nil) (.lcons (.cons (.n 8090) .nil) (.lcons (.cons (.n 8192) .nil) (.lcons (.cons (.n 8290) .nil) (.lcons (.cons (.n 8387) .nil) (.lcons (.cons (.n 8480) .nil) (.lcons (.cons (.n 8572) .nil) (.lcons (.cons (.n 8660) .nil) (.lcons (.cons (.n 8746) .nil) (.lcons (.cons (.n 8829) .nil) (.lcons (.cons (.n 8910) .nil) (.lcons (.cons (.n 8988) .nil) (.lcons (.cons (.n 9063) .nil) (.lcons (.cons (.n 9135) .nil) (.lcons (.cons (.n 9205) .nil) (.lcons (.cons (.n 9272) .nil) (.lcons (.cons (.n 9336) .nil) (.lcons (.cons (.n 9397) .nil) (.lcons (.cons (.n 9455) .nil) (.lcons (.cons (.n 9511) .nil) (.lcons (.cons (.n 9563) .nil) (.lcons (.cons (.n 9613) .nil) (.lcons (.cons (.n 9659) .nil) (.lcons (.cons (.n 9703) .nil) (.lcons (.cons (.n 9744) .nil) (.lcons (.cons (.n 9781) .nil) (.lcons (.cons (.n 9816) .nil) (.lcons (.cons (.n 9848) .nil) (.lcons (.cons (.n 9877) .nil) (.lcons (.cons (.n 9903) .nil) (.lcons (.cons (.n 9925) .nil) (.lcons (.cons (.n 9945) .nil) (.lcons (.cons (.n 9962) .nil) (.lcons (.cons (.n 9976) .nil) (.lcons (.cons (.n 9986) .nil) (.lcons (.cons (.n 9994) .nil) (.lcons (.cons (.n 9998) .nil) (.lcons (.cons (.n 10000) .nil) .lnil))))))))))))))))))))))))))))))))))))))))))))))))))))))))))))))))))))))))))))))))))))))))))) (.var 0)) .nil))))
theorem e42 : (fnVT Try.prog (sgOf sg42) (ltOf lt42) S42 Try.f42 c42).slim (S42.ps.map fun p => p.2.length).sum [] = vt42 := by kernel_rfl

/-! ### 39 -/
def S39 : Sig := ⟨[(false, [(.int .i64)])], [(false, [(.int .i64)])], [], none⟩
noncomputable def c39 : Code := Try.f39.body.getD .skip
theorem b39 : Try.f39.body = some c39 := body_some (by kernel_rfl)
theorem n39 : (Try.f39.name == "runtime.NumGoroutine") = false := by kernel_rfl
def sg39 : List (FuncId × Sig) := [(39, S39), (42, S42)]
def lt39 : List (Nat × LoopSig) := []
theorem k39 : (Code.loops c39).length = 0 := by kernel_rfl
def vt39 : VT :=
  (.ite (.bin .lt (.n 180) (.var 0))
   (.need (.t true) (.pre 39 (.cons (.bin (.sub .i64) (.var 0) (.n 180)) .nil))
   (.lt (.app 39 (.cons (.bin (.sub .i64) (.var 0) (.n 180)) .nil) 0) 1
   (.ret (.cons (.un (.neg .i64) (.var 1)) .nil))))
   (.ite (.bin .lt (.n 90) (.var 0))
    (.need (.t true) (.pre 42 (.cons (.bin (.sub .i64) (.n 180) (.var 0)) .nil))
    (.lt (.app 42 (.cons (.bin (.sub .i64) (.n 180) (.var 0)) .nil) 0) 1
    (.ret (.cons (.var 1) .nil))))
    (.need (.t true) (.pre 42 (.cons (.var 0) .nil))
    (.lt (.app 42 (.cons (.var 0) .nil) 0) 1
    (.ret (.cons (.var 1) .nil))))))
theorem e39 : (fnVT Try.prog (sgOf sg39) (ltOf lt39) S39 Try.f39 c39).slim (S39.ps.map fun p => p.2.length).sum [] = vt39 := by kernel_rfl

/-! ### 35 -/
def S35 : Sig := ⟨[(false, [(.int .i64)])], [(false, [(.int .i64)])], [], none⟩
noncomputable def c35 : Code := Try.f35.body.getD .skip
theorem b35 : Try.f35.body = some c35 := body_some (by kernel_rfl)
theorem n35 : (Try.f35.name == "runtime.NumGoroutine") = false := by kernel_rfl
def sg35 : List (FuncId × Sig) := [(40, S40), (39, S39)]
def lt35 : List (Nat × LoopSig) := []
theorem k35 : (Code.loops c35).length = 0 := by kernel_rfl
def vt35 : VT :=
  (.need (.t true) (.pre 40 (.cons (.var 0) .nil))
  (.lt (.app 40 (.cons (.var 0) .nil) 0) 1
  (.need (.t true) (.pre 40 (.cons (.bin (.add .i64) (.var 1) (.n 90)) .nil))
  (.lt (.app 40 (.cons (.bin (.add .i64) (.var 1) (.n 90)) .nil) 0) 1
  (.need (.t true) (.pre 39 (.cons (.var 2) .nil))
  (.lt (.app 39 (.cons (.var 2) .nil) 0) 1
  (.ret (.cons (.var 3) .nil))))))))
theorem e35 : (fnVT Try.prog (sgOf sg35) (ltOf lt35) S35 Try.f35 c35).slim (S35.ps.map fun p => p.2.length).sum [] = vt35 := by kernel_rfl

/-! ### 34 -/
def S34 : Sig := ⟨[(false, [(.int .i64)]), (false, [(.int .i64)])], [(false, [(.int .i64)])], [], none⟩
noncomputable def c34 : Code := Try.f34.body.getD .skip
theorem b34 : Try.f34.body = some c34 := body_some (by kernel_rfl)
theorem n34 : (Try.f34.name == "runtime.NumGoroutine") = false := by kernel_rfl
def sg34 : List (FuncId × Sig) := [(34, S34)]
def lt34 : List (Nat × LoopSig) := []
theorem k34 : (Code.loops c34).length = 0 := by kernel_rfl
def vt34 : VT :=
  (.ite (.bin .lt (.var 1) (.n 0))
   (.need (.t true) (.pre 34 (.cons (.var 0) (.cons (.un (.neg .i64) (.var 1)) .nil)))
   (.lt (.app 34 (.cons (.var 0) (.cons (.un (.neg .i64) (.var 1)) .nil)) 0) 1
   (.ret (.cons (.un (.neg .i64) (.var 2)) .nil))))
   (.ret (.cons (.bin (.quo .i64) (.bin (.add .i64) (.bin (.mul .i64) (.var 0) (.var 1)) (.n 5000)) (.n 10000)) .nil)))
theorem e34 : (fnVT Try.prog (sgOf sg34) (ltOf lt34) S34 Try.f34 c34).slim (S34.ps.map fun p => p.2.length).sum [] = vt34 := by kernel_rfl

/-! ### 36 -/
def S36 : Sig := ⟨[(false, [(.int .i64)])], [(false, [(.int .i64)])], [], none⟩
noncomputable def c36 : Code := Try.f36.body.getD .skip
theorem b36 : Try.f36.body = some c36 := body_some (by kernel_rfl)
theorem n36 : (Try.f36.name == "runtime.NumGoroutine") = false := by kernel_rfl
def sg36 : List (FuncId × Sig) := [(40, S40), (39, S39)]
def lt36 : List (Nat × LoopSig) := []
theorem k36 : (Code.loops c36).length = 0 := by kernel_rfl
def vt36 : VT :=
  (.need (.t true) (.pre 40 (.cons (.var 0) .nil))
  (.lt (.app 40 (.cons (.var 0) .nil) 0) 1
  (.need (.t true) (.pre 39 (.cons (.var 1) .nil))
  (.lt (.app 39 (.cons (.var 1) .nil) 0) 1
  (.ret (.cons (.var 2) .nil))))))
theorem e36 : (fnVT Try.prog (sgOf sg36) (ltOf lt36) S36 Try.f36 c36).slim (S36.ps.map fun p => p.2.length).sum [] = vt36 := by kernel_rfl

/-! ### 28 -/
def S28 : Sig := ⟨[(true, [(.int .i64), (.int .i64)]), (false, [(.int .i64)]), (false, [(.int .i64)])], [(true, [(.int .i64), (.int .i64)])], [], none⟩
noncomputable def c28 : Code := Try.f28.body.getD .skip
theorem b28 : Try.f28.body = some c28 := body_some (by kernel_rfl)
theorem n28 : (Try.f28.name == "runtime.NumGoroutine") = false := by kernel_rfl
def sg28 : List (FuncId × Sig) := [(33, S33), (35, S35), (34, S34), (36, S36)]
def lt28 : List (Nat × LoopSig) := []
theorem k28 : (Code.loops c28).length = 0 := by kernel_rfl
def vt28 : VT :=
  (.need (.t true) (.pre 33 (.cons (.var 0) (.cons (.var 1) .nil)))
  (.lt (.app 33 (.cons (.var 0) (.cons (.var 1) .nil)) 0) 1
  (.ite (.ite (.ite (.un .not (.var 4)) (.t true) (.bin .lt (.var 2) (.n 0))) (.t true) (.bin .lt (.n 1048576) (.var 2)))
   (.ret (.cons (.n 0) (.cons (.n 0) .nil)))
   (.need (.t true) (.pre 35 (.cons (.var 3) .nil))
   (.lt (.app 35 (.cons (.var 3) .nil) 0) 1
   (.need (.t true) (.pre 34 (.cons (.var 2) (.cons (.var 5) .nil)))
   (.lt (.app 34 (.cons (.var 2) (.cons (.var 5) .nil)) 0) 1
   (.need (.t true) (.pre 36 (.cons (.var 3) .nil))
   (.lt (.app 36 (.cons (.var 3) .nil) 0) 1
   (.need (.t true) (.pre 34 (.cons (.var 2) (.cons (.var 7) .nil)))
   (.lt (.app 34 (.cons (.var 2) (.cons (.var 7) .nil)) 0) 1
   (.need (.t true) (.pre 33 (.cons (.bin (.add .i64) (.var 0) (.var 6)) (.cons (.bin (.add .i64) (.var 1) (.var 8)) .nil)))
   (.lt (.app 33 (.cons (.bin (.add .i64) (.var 0) (.var 6)) (.cons (.bin (.add .i64) (.var 1) (.var 8)) .nil)) 0) 1
   (.ite (.un .not (.var 9))
    (.ret (.cons (.n 0) (.cons (.n 0) .nil)))
    (.ret (.cons (.bin (.add .i64) (.var 0) (.var 6)) (.cons (.bin (.add .i64) (.var 1) (.var 8)) .nil)))))))))))))))))
theorem e28 : (fnVT Try.prog (sgOf sg28) (ltOf lt28) S28 Try.f28 c28).slim (S28.ps.map fun p => p.2.length).sum [] = vt28 := by kernel_rfl

/-! ### 15 -/
def S15 : Sig := ⟨[(false, [(.sl 3 [(.int .i64)])]), (false, [(.int .i64)])], [(false, [(.sl 39 [(.int .i64), (.int .i64)])]), (false, [(.int .i64)])], [], none⟩
noncomputable def c15 : Code := Try.f15.body.getD .skip
theorem b15 : Try.f15.body = some c15 := body_some (by kernel_rfl)
theorem n15 : (Try.f15.name == "runtime.NumGoroutine") = false := by kernel_rfl
def sg15 : List (FuncId × Sig) := [(19, S19), (20, S20), (10, S10), (28, S28)]
def L15_0 : LoopSig := ⟨11500, [],
   ⟨[.any, (.c (.x (.int .i64) (.var 0))), .any, .any, (.c (.x (.sl 39 [(.int .i64), (.int .i64)]) (.var 1))), (.c (.x (.int .i64) (.var 2))), (.c (.x (.sl 3 [(.int .i64)]) (.var 3))), (.c (.x (.int .i64) (.var 4))), .any, .any, .any, .any, .any, .any, .any, .any, .any, .any, .any, .any, .any, .any, .any, .any, .any, .any, .any, .any, .any, .any, .any, .any, .any, .any, .any, .any, .any, .any, .any, .any, .any, .any, .any, .any, .any, .any, .any, .any, .any, .any, .any, .any, .any, .any, .any, .any, .any, .any, .any, .any, .any, .any, .any, .any, .any, .any, .any, .any, .any],
    []⟩,
   5, [1, 2, 4], [21, 22, 23, 24, 27, 28, 29, 30, 31, 32, 33, 34, 35, 36, 37, 38, 39, 40, 4, 5, 25, 26, 7], [.ret, (.exit 0)], []⟩
def L15_1 : LoopSig := ⟨11501, [],
   ⟨[.any, (.c (.x (.int .i64) (.var 0))), .any, .any, .any, .any, (.c (.x (.sl 3 [(.int .i64)]) (.var 1))), .any, (.c (.x (.sl 3 [(.int .i64)]) (.var 2))), .any, (.c (.row 0 1)), (.c (.x (.int .i64) (.var 3))), .any, .any, .any, .any, .any, .any, .any, .any, .any, .any, .any, .any, .any, .any, .any, .any, .any, .any, .any, .any, .any, .any, .any, .any, .any, .any, .any, .any, .any, .any, .any, .any, .any, .any, .any, .any, .any, .any, .any, .any, .any, .any, .any, .any, .any, .any, .any, .any, .any, .any, .any, .any, .any, .any, .any, .any, .any],
    [some ⟨(.t true), (.row 39 [(.int .i64), (.int .i64)] (.var 4) 1 false)⟩]⟩,
   5, [3, 4], [47, 48, 49, 50, 53, 54, 55, 56, 57, 58, 59, 60, 61, 62, 63, 64, 65, 66, 67, 10, 51, 52, 11], [(.exit 2)], [4]⟩
def lt15 : List (Nat × LoopSig) := [(5, L15_0), (12, L15_1)]
theorem k15 : (Code.loops c15).length = 2 := by kernel_rfl
noncomputable def lb15_0 : Code := (Code.loops c15).getD 0 .skip
noncomputable def lb15_1 : Code := (Code.loops c15).getD 1 .skip
def rt15_0 : VT :=
  (.ite (.bin .lt (.var 4) (.un .len (.var 3)))
   (.need (.t true) (.c (.bin .le (.n 0) (.var 4)))
   (.need (.bin .lt (.n 0) (.sel 0 (.var 3) (.var 4))) (.c (.un .not (.bin .eq (.sel 0 (.var 3) (.var 4)) (.n 0))))
   (.ite (.ite (.bin .lt (.n 0) (.sel 0 (.var 3) (.var 4))) (.bin .lt (.bin (.quo .i64) (.n 1048576) (.sel 0 (.var 3) (.var 4))) (.var 0)) (.t false))
    (.ret (.cons (.n 0) (.cons .lnil (.cons (.n 2) (.cons (.var 4) .nil)))))
    (.ret (.cons (.n (-1)) (.cons (.var 1) (.cons (.var 2) (.cons (.bin (.add .i64) (.var 4) (.n 1)) .nil))))))))
   (.ret (.cons (.n 1) (.cons (.var 1) (.cons (.var 2) (.cons (.var 4) .nil))))))
theorem le15_0 : (loopVT Try.prog (sgOf sg15) (ltOf lt15) L15_0 lb15_0).slim L15_0.nv [] = rt15_0 := by kernel_rfl
theorem lf15_0 : (firstRegion lb15_0).bind (ltOf lt15) = some L15_0 := by kernel_rfl
theorem lk15_0 : (Code.loops lb15_0).length = 0 := by kernel_rfl
def rt15_1 : VT :=
  (.ite (.bin .lt (.var 3) (.un .len (.var 1)))
   (.need (.t true) (.c (.bin .le (.n 0) (.var 3)))
   (.need (.t true) (.c (.bin .lt (.var 3) (.un .len (.var 2))))
   (.need (.t true) (.pre 28 (.cons (.n 0) (.cons (.n 0) (.cons (.bin (.mul .i64) (.sel 0 (.var 1) (.var 3)) (.var 0)) (.cons (.sel 0 (.var 2) (.var 3)) .nil)))))
   (.lt (.app 28 (.cons (.n 0) (.cons (.n 0) (.cons (.bin (.mul .i64) (.sel 0 (.var 1) (.var 3)) (.var 0)) (.cons (.sel 0 (.var 2) (.var 3)) .nil)))) 0) 2
   (.need (.t true) (.c (.bin .le (.un .len (.bin .cat (.var 4) (.lcons (.cons (.var 5) (.cons (.var 6) .nil)) .lnil))) (.n 8796093022208)))
   (.ret (.cons (.n (-1)) (.cons (.bin (.add .i64) (.var 3) (.n 1)) (.cons (.bin .cat (.var 4) (.lcons (.cons (.var 5) (.cons (.var 6) .nil)) .lnil)) .nil)))))))))
   (.ret (.cons (.n 0) (.cons (.var 3) (.cons (.var 4) .nil)))))
theorem le15_1 : (loopVT Try.prog (sgOf sg15) (ltOf lt15) L15_1 lb15_1).slim L15_1.nv [] = rt15_1 := by kernel_rfl
theorem lf15_1 : (firstRegion lb15_1).bind (ltOf lt15) = some L15_1 := by kernel_rfl
theorem lk15_1 : (Code.loops lb15_1).length = 0 := by kernel_rfl
def vt15 : VT :=
  (.need (.t true) (.pre 19 (.cons (.var 0) .nil))
  (.lt (.app 19 (.cons (.var 0) .nil) 0) 1
  (.ite (.ite (.un .not (.var 2)) (.t true) (.bin .lt (.var 1) (.n 0)))
   (.ret (.cons .lnil (.cons (.n 1) .nil)))
   (.need (.t true) (.pre 20 (.cons (.var 0) .nil))
   (.lt (.app 20 (.cons (.var 0) .nil) 0) 1
   (.need (.t true) (.pre 11500 (.cons (.var 1) (.cons .lnil (.cons (.n 0) (.cons (.var 3) (.cons (.n 0) .nil))))))
   (.lt (.app 11500 (.cons (.var 1) (.cons .lnil (.cons (.n 0) (.cons (.var 3) (.cons (.n 0) .nil))))) 0) 4
   (.ite (.bin .eq (.var 4) (.n 0))
    (.ret (.cons (.var 5) (.cons (.var 6) .nil)))
    (.need (.t true) (.pre 10 (.cons (.var 0) .nil))
    (.lt (.app 10 (.cons (.var 0) .nil) 0) 2
    (.need (.t true) (.pre 11501 (.cons (.var 1) (.cons (.var 3) (.cons (.var 8) (.cons (.n 0) (.cons .lnil .nil))))))
    (.lt (.app 11501 (.cons (.var 1) (.cons (.var 3) (.cons (.var 8) (.cons (.n 0) (.cons .lnil .nil))))) 0) 3
    (.ret (.cons (.var 12) (.cons (.n 0) .nil)))))))))))))))
theorem e15 : (fnVT Try.prog (sgOf sg15) (ltOf lt15) S15 Try.f15 c15).slim (S15.ps.map fun p => p.2.length).sum [] = vt15 := by kernel_rfl

/-! ### 4 -/
def S4 : Sig := ⟨[(false, [(.sl 3 [(.int .i64)])]), (false, [(.int .i64)])], [(false, [.bool])], [], none⟩
noncomputable def c4 : Code := Try.f4.body.getD .skip
theorem b4 : Try.f4.body = some c4 := body_some (by kernel_rfl)
theorem n4 : (Try.f4.name == "runtime.NumGoroutine") = false := by kernel_rfl
def sg4 : List (FuncId × Sig) := [(8, S8), (14, S14), (15, S15), (16, S16)]
def lt4 : List (Nat × LoopSig) := []
theorem k4 : (Code.loops c4).length = 0 := by kernel_rfl
def vt4 : VT :=
  (.ite (.bin .lt (.n 80) (.un .len (.var 0)))
   (.need (.t true) (.pre 8 .nil)
   (.lt (.app 8 .nil 0) 1
   (.ret (.cons (.var 2) .nil))))
   (.need (.t true) (.pre 14 (.cons (.var 0) (.cons (.var 1) .nil)))
   (.lt (.app 14 (.cons (.var 0) (.cons (.var 1) .nil)) 0) 2
   (.need (.t true) (.pre 15 (.cons (.var 0) (.cons (.var 1) .nil)))
   (.lt (.app 15 (.cons (.var 0) (.cons (.var 1) .nil)) 0) 2
   (.need (.bin .eq (.var 3) (.var 5)) (.pre 16 (.cons (.var 2) (.cons (.var 4) .nil)))
   (.lt (.app 16 (.cons (.var 2) (.cons (.var 4) .nil)) 0) 1
   (.need (.ite (.bin .eq (.var 3) (.var 5)) (.var 6) (.t false)) (.pre 8 .nil)
   (.lt (.app 8 .nil 0) 1
   (.ret (.cons (.ite (.ite (.bin .eq (.var 3) (.var 5)) (.var 6) (.t false)) (.var 7) (.t false)) .nil)))))))))))
theorem e4 : (fnVT Try.prog (sgOf sg4) (ltOf lt4) S4 Try.f4 c4).slim (S4.ps.map fun p => p.2.length).sum [] = vt4 := by kernel_rfl

/-! ### 18 -/
def S18 : Sig := ⟨[(false, [(.int .i64)]), (false, [(.int .i64)])], [(false, [(.int .i64)])], [], none⟩
noncomputable def c18 : Code := Try.f18.body.getD .skip
theorem b18 : Try.f18.body = some c18 := body_some (by kernel_rfl)
theorem n18 : (Try.f18.name == "runtime.NumGoroutine") = false := by kernel_rfl
def sg18 : List (FuncId × Sig) := []
def lt18 : List (Nat × LoopSig) := []
theorem k18 : (Code.loops c18).length = 0 := by kernel_rfl
def vt18 : VT :=
  (.ite (.ite (.ite (.ite (.bin .lt (.var 0) (.n 1)) (.t true) (.bin .lt (.n 64) (.var 0))) (.t true) (.bin .lt (.var 1) (.n 0))) (.t true) (.bin .lt (.n 1048576) (.var 1)))
   (.ret (.cons (.n 0) .nil))
   (.need (.t true) (.c (.un .not (.bin .eq (.var 0) (.n 0))))
   (.need (.t true) (.c (.un .not (.bin .eq (.bin .min (.n 60) (.bin (.quo .i64) (.n 360) (.var 0))) (.n 0))))
   (.ret (.cons (.bin (.quo .i64) (.bin (.sub .i64) (.bin (.add .i64) (.bin (.mul .i64) (.n 60) (.bin (.add .i64) (.bin (.quo .i64) (.bin (.add .i64) (.bin (.mul .i64) (.n 3) (.var 1)) (.n 1)) (.n 2)) (.n 256))) (.bin .min (.n 60) (.bin (.quo .i64) (.n 360) (.var 0)))) (.n 1)) (.bin .min (.n 60) (.bin (.quo .i64) (.n 360) (.var 0)))) .nil)))))
theorem e18 : (fnVT Try.prog (sgOf sg18) (ltOf lt18) S18 Try.f18 c18).slim (S18.ps.map fun p => p.2.length).sum [] = vt18 := by kernel_rfl

/-! ### 5 -/
def S5 : Sig := ⟨[(false, [(.int .i64)]), (false, [(.int .i64)])], [(false, [.bool])], [], none⟩
noncomputable def c5 : Code := Try.f5.body.getD .skip
theorem b5 : Try.f5.body = some c5 := body_some (by kernel_rfl)
theorem n5 : (Try.f5.name == "runtime.NumGoroutine") = false := by kernel_rfl
def sg5 : List (FuncId × Sig) := [(17, S17), (18, S18), (8, S8)]
def lt5 : List (Nat × LoopSig) := []
theorem k5 : (Code.loops c5).length = 0 := by kernel_rfl
def vt5 : VT :=
  (.need (.t true) (.pre 17 (.cons (.var 0) (.cons (.var 1) .nil)))
  (.lt (.app 17 (.cons (.var 0) (.cons (.var 1) .nil)) 0) 1
  (.need (.t true) (.pre 18 (.cons (.var 0) (.cons (.var 1) .nil)))
  (.lt (.app 18 (.cons (.var 0) (.cons (.var 1) .nil)) 0) 1
  (.need (.bin .eq (.var 2) (.var 3)) (.pre 8 .nil)
  (.lt (.app 8 .nil 0) 1
  (.ret (.cons (.ite (.bin .eq (.var 2) (.var 3)) (.var 4) (.t false)) .nil))))))))
theorem e5 : (fnVT Try.prog (sgOf sg5) (ltOf lt5) S5 Try.f5 c5).slim (S5.ps.map fun p => p.2.length).sum [] = vt5 := by kernel_rfl

/-! ### 6 -/
def S6 : Sig := ⟨[(false, [(.sl 3 [(.int .i64)])])], [(false, [.bool])], [], none⟩
noncomputable def c6 : Code := Try.f6.body.getD .skip
theorem b6 : Try.f6.body = some c6 := body_some (by kernel_rfl)
theorem n6 : (Try.f6.name == "runtime.NumGoroutine") = false := by kernel_rfl
def sg6 : List (FuncId × Sig) := [(19, S19), (8, S8), (12, S12), (9, S9), (20, S20)]
def L6_0 : LoopSig := ⟨10601, [],
   ⟨[(.c (.x (.sl 3 [(.int .i64)]) (.var 0))), .any, (.c (.x .bool (.var 1))), (.c (.x (.int .i64) (.var 2))), (.c (.x (.sl 3 [(.int .i64)]) (.var 3))), (.c (.x (.sl 3 [(.int .i64)]) (.var 4))), .any, (.c (.x (.sl 3 [(.int .i64)]) (.var 5))), (.c (.x (.int .i64) (.var 6))), .any, .any, .any, .any, .any, .any, .any, .any, .any, .any, .any, .any, .any, .any, .any, .any, .any, .any, .any, .any, .any, .any, .any, .any, .any, .any, .any, .any, .any, .any, .any, .any, .any, .any, .any, .any, .any, .any, .any, .any, .any, .any, .any, .any, .any, .any, .any, .any, .any, .any, .any, .any, .any, .any, .any, .any, .any, .any, .any, .any, .any, .any, .any, .any, .any, .any, .any, .any, .any, .any, .any, .any, .any, .any, .any, .any, .any, .any, .any, .any, .any, .any, .any, .any, .any, .any, .any, .any, .any, .any, .any, .any, .any, .any, .any, .any, .any, .any, .any, .any, .any, .any, .any, .any, .any, .any, .any, .any, .any, .any, .any, .any, .any, .any],
    []⟩,
   7, [1, 6], [41, 42, 43, 9, 10, 46, 47, 48, 51, 52, 53, 54, 55, 56, 57, 58, 59, 60, 61, 62, 63, 64, 65, 66, 67, 68, 69, 70, 71, 72, 73, 74, 75, 76, 77, 78, 79, 80, 81, 82, 83, 84, 85, 11, 86, 87, 88, 89, 90, 91, 92, 93, 94, 95, 96, 97, 98, 99, 100, 2, 49, 50, 101, 102, 103, 104, 105, 106, 107, 108, 109, 110, 111, 112, 113, 114, 115, 116, 117, 118, 119, 120, 121, 44, 45, 8], [.ret, (.exit 0)], []⟩
def L6_1 : LoopSig := ⟨10600, [],
   ⟨[(.c (.x (.sl 3 [(.int .i64)]) (.var 0))), .any, (.c (.x .bool (.var 1))), (.c (.x (.int .i64) (.var 2))), (.c (.x (.sl 3 [(.int .i64)]) (.var 3))), (.c (.x (.sl 3 [(.int .i64)]) (.var 4))), .any, (.c (.x (.sl 3 [(.int .i64)]) (.var 5))), (.c (.x (.int .i64) (.var 6))), (.c (.x (.int .i64) (.var 7))), (.c (.x (.int .i64) (.var 8))), .any, .any, .any, .any, .any, .any, .any, .any, .any, .any, .any, .any, .any, .any, .any, .any, .any, .any, .any, .any, .any, .any, .any, .any, .any, .any, .any, .any, .any, .any, .any, .any, .any, .any, .any, .any, .any, .any, .any, .any, .any, .any, .any, .any, .any, .any, .any, .any, .any, .any, .any, .any, .any, .any, .any, .any, .any, .any, .any, .any, .any, .any, .any, .any, .any, .any, .any, .any, .any, .any, .any, .any, .any, .any, .any, .any, .any, .any, .any, .any, .any, .any, .any, .any, .any, .any, .any, .any, .any, .any, .any, .any, .any, .any, .any, .any, .any, .any, .any, .any, .any, .any, .any, .any, .any, .any, .any, .any, .any, .any, .any, .any],
    []⟩,
   9, [1, 7, 8], [46, 47, 48, 51, 52, 53, 54, 55, 56, 57, 58, 59, 60, 61, 62, 9, 63, 64, 65, 66, 67, 68, 69, 70, 71, 72, 73, 74, 75, 76, 77, 78, 79, 80, 81, 82, 83, 84, 85, 11, 86, 87, 88, 89, 90, 91, 92, 93, 94, 95, 96, 97, 98, 99, 100, 2, 49, 50, 10], [.ret, (.exit 2)], []⟩
def lt6 : List (Nat × LoopSig) := [(10, L6_0), (14, L6_1)]
theorem k6 : (Code.loops c6).length = 2 := by kernel_rfl
noncomputable def lb6_0 : Code := (Code.loops c6).getD 0 .skip
noncomputable def lb6_1 : Code := (Code.loops c6).getD 1 .skip
def rt6_0 : VT :=
  (.ite (.bin .lt (.var 6) (.var 2))
   (.need (.t true) (.pre 10600 (.cons (.var 0) (.cons (.var 1) (.cons (.var 2) (.cons (.var 3) (.cons (.var 4) (.cons (.var 5) (.cons (.var 6) (.cons (.n 0) (.cons (.n 0) .nil))))))))))
   (.lt (.app 10600 (.cons (.var 0) (.cons (.var 1) (.cons (.var 2) (.cons (.var 3) (.cons (.var 4) (.cons (.var 5) (.cons (.var 6) (.cons (.n 0) (.cons (.n 0) .nil))))))))) 0) 4
   (.ite (.bin .eq (.var 7) (.n 0))
    (.ret (.cons (.n 0) (.cons (.var 8) (.cons (.var 6) .nil))))
    (.need (.t true) (.c (.bin .le (.n 0) (.var 6)))
    (.need (.t true) (.c (.bin .lt (.var 6) (.un .len (.var 3))))
    (.need (.bin .eq (.sel 0 (.var 3) (.var 6)) (.bin .max (.var 9) (.n 1))) (.c (.bin .lt (.var 6) (.un .len (.var 4))))
    (.need (.un .not (.ite (.un .not (.bin .eq (.sel 0 (.var 3) (.var 6)) (.bin .max (.var 9) (.n 1)))) (.t true) (.bin .lt (.sel 0 (.var 4) (.var 6)) (.n 0)))) (.c (.bin .lt (.var 6) (.un .len (.var 4))))
    (.ite (.ite (.ite (.un .not (.bin .eq (.sel 0 (.var 3) (.var 6)) (.bin .max (.var 9) (.n 1)))) (.t true) (.bin .lt (.sel 0 (.var 4) (.var 6)) (.n 0))) (.t true) (.bin .lt (.n 359) (.sel 0 (.var 4) (.var 6))))
     (.ret (.cons (.n 0) (.cons (.t false) (.cons (.var 6) .nil))))
     (.ret (.cons (.n (-1)) (.cons (.var 8) (.cons (.bin (.add .i64) (.var 6) (.n 1)) .nil))))))))))))
   (.ret (.cons (.n 1) (.cons (.var 1) (.cons (.var 6) .nil)))))
theorem le6_0 : (loopVT Try.prog (sgOf sg6) (ltOf lt6) L6_0 lb6_0).slim L6_0.nv [] = rt6_0 := by kernel_rfl
theorem lf6_0 : (firstRegion lb6_0).bind (ltOf lt6) = some L6_0 := by kernel_rfl
theorem lk6_0 : (Code.loops lb6_0).length = 1 := by kernel_rfl
theorem li6_0_0 : (Code.loops lb6_0).getD 0 .skip = lb6_1 := by kernel_rfl
def rt6_1 : VT :=
  (.ite (.bin .lt (.var 8) (.var 2))
   (.need (.t true) (.c (.bin .le (.n 0) (.var 8)))
   (.need (.t true) (.c (.bin .lt (.var 8) (.un .len (.var 0))))
   (.ite (.bin .eq (.sel 0 (.var 0) (.var 8)) (.var 6))
    (.need (.t true) (.c (.bin .lt (.var 8) (.un .len (.var 3))))
    (.need (.un .not (.bin .eq (.var 8) (.var 6))) (.c (.bin .lt (.var 8) (.un .len (.var 5))))
    (.need (.un .not (.bin .eq (.var 8) (.var 6))) (.c (.bin .le (.n 0) (.var 6)))
    (.need (.un .not (.bin .eq (.var 8) (.var 6))) (.c (.bin .lt (.var 6) (.un .len (.var 5))))
    (.ite (.ite (.un .not (.bin .eq (.var 8) (.var 6))) (.bin .eq (.sel 0 (.var 5) (.var 8)) (.sel 0 (.var 5) (.var 6))) (.t false))
     (.need (.t true) (.c (.bin .lt (.var 8) (.un .len (.var 4))))
     (.need (.t true) (.c (.bin .le (.n 0) (.var 6)))
     (.need (.t true) (.c (.bin .lt (.var 6) (.un .len (.var 4))))
     (.ite (.bin .lt (.bin (.sub .i64) (.sel 0 (.var 4) (.var 8)) (.sel 0 (.var 4) (.var 6))) (.n 0))
      (.need (.t true) (.c (.un .not (.bin .eq (.var 2) (.n 0))))
      (.ite (.ite (.bin .lt (.un (.neg .i64) (.bin (.sub .i64) (.sel 0 (.var 4) (.var 8)) (.sel 0 (.var 4) (.var 6)))) (.bin (.quo .i64) (.n 360) (.var 2))) (.t true) (.bin .lt (.bin (.sub .i64) (.n 360) (.un (.neg .i64) (.bin (.sub .i64) (.sel 0 (.var 4) (.var 8)) (.sel 0 (.var 4) (.var 6))))) (.bin (.quo .i64) (.n 360) (.var 2))))
       (.ret (.cons (.n 0) (.cons (.t false) (.cons (.bin (.add .i64) (.var 7) (.sel 0 (.var 3) (.var 8))) (.cons (.var 8) .nil)))))
       (.ret (.cons (.n (-1)) (.cons (.var 1) (.cons (.bin (.add .i64) (.var 7) (.sel 0 (.var 3) (.var 8))) (.cons (.bin (.add .i64) (.var 8) (.n 1)) .nil)))))))
      (.need (.t true) (.c (.un .not (.bin .eq (.var 2) (.n 0))))
      (.ite (.ite (.bin .lt (.bin (.sub .i64) (.sel 0 (.var 4) (.var 8)) (.sel 0 (.var 4) (.var 6))) (.bin (.quo .i64) (.n 360) (.var 2))) (.t true) (.bin .lt (.bin (.sub .i64) (.n 360) (.bin (.sub .i64) (.sel 0 (.var 4) (.var 8)) (.sel 0 (.var 4) (.var 6)))) (.bin (.quo .i64) (.n 360) (.var 2))))
       (.ret (.cons (.n 0) (.cons (.t false) (.cons (.bin (.add .i64) (.var 7) (.sel 0 (.var 3) (.var 8))) (.cons (.var 8) .nil)))))
       (.ret (.cons (.n (-1)) (.cons (.var 1) (.cons (.bin (.add .i64) (.var 7) (.sel 0 (.var 3) (.var 8))) (.cons (.bin (.add .i64) (.var 8) (.n 1)) .nil)))))))))))
     (.ret (.cons (.n (-1)) (.cons (.var 1) (.cons (.bin (.add .i64) (.var 7) (.sel 0 (.var 3) (.var 8))) (.cons (.bin (.add .i64) (.var 8) (.n 1)) .nil))))))))))
    (.need (.un .not (.bin .eq (.var 8) (.var 6))) (.c (.bin .lt (.var 8) (.un .len (.var 5))))
    (.need (.un .not (.bin .eq (.var 8) (.var 6))) (.c (.bin .le (.n 0) (.var 6)))
    (.need (.un .not (.bin .eq (.var 8) (.var 6))) (.c (.bin .lt (.var 6) (.un .len (.var 5))))
    (.ite (.ite (.un .not (.bin .eq (.var 8) (.var 6))) (.bin .eq (.sel 0 (.var 5) (.var 8)) (.sel 0 (.var 5) (.var 6))) (.t false))
     (.need (.t true) (.c (.bin .lt (.var 8) (.un .len (.var 4))))
     (.need (.t true) (.c (.bin .le (.n 0) (.var 6)))
     (.need (.t true) (.c (.bin .lt (.var 6) (.un .len (.var 4))))
     (.ite (.bin .lt (.bin (.sub .i64) (.sel 0 (.var 4) (.var 8)) (.sel 0 (.var 4) (.var 6))) (.n 0))
      (.need (.t true) (.c (.un .not (.bin .eq (.var 2) (.n 0))))
      (.ite (.ite (.bin .lt (.un (.neg .i64) (.bin (.sub .i64) (.sel 0 (.var 4) (.var 8)) (.sel 0 (.var 4) (.var 6)))) (.bin (.quo .i64) (.n 360) (.var 2))) (.t true) (.bin .lt (.bin (.sub .i64) (.n 360) (.un (.neg .i64) (.bin (.sub .i64) (.sel 0 (.var 4) (.var 8)) (.sel 0 (.var 4) (.var 6))))) (.bin (.quo .i64) (.n 360) (.var 2))))
       (.ret (.cons (.n 0) (.cons (.t false) (.cons (.var 7) (.cons (.var 8) .nil)))))
       (.ret (.cons (.n (-1)) (.cons (.var 1) (.cons (.var 7) (.cons (.bin (.add .i64) (.var 8) (.n 1)) .nil)))))))
      (.need (.t true) (.c (.un .not (.bin .eq (.var 2) (.n 0))))
      (.ite (.ite (.bin .lt (.bin (.sub .i64) (.sel 0 (.var 4) (.var 8)) (.sel 0 (.var 4) (.var 6))) (.bin (.quo .i64) (.n 360) (.var 2))) (.t true) (.bin .lt (.bin (.sub .i64) (.n 360) (.bin (.sub .i64) (.sel 0 (.var 4) (.var 8)) (.sel 0 (.var 4) (.var 6)))) (.bin (.quo .i64) (.n 360) (.var 2))))
       (.ret (.cons (.n 0) (.cons (.t false) (.cons (.var 7) (.cons (.var 8) .nil)))))
       (.ret (.cons (.n (-1)) (.cons (.var 1) (.cons (.var 7) (.cons (.bin (.add .i64) (.var 8) (.n 1)) .nil)))))))))))
     (.ret (.cons (.n (-1)) (.cons (.var 1) (.cons (.var 7) (.cons (.bin (.add .i64) (.var 8) (.n 1)) .nil))))))))))))
   (.ret (.cons (.n 1) (.cons (.var 1) (.cons (.var 7) (.cons (.var 8) .nil))))))
theorem le6_1 : (loopVT Try.prog (sgOf sg6) (ltOf lt6) L6_1 lb6_1).slim L6_1.nv [] = rt6_1 := by kernel_rfl
theorem lf6_1 : (firstRegion lb6_1).bind (ltOf lt6) = some L6_1 := by kernel_rfl
theorem lk6_1 : (Code.loops lb6_1).length = 0 := by kernel_rfl
def vt6 : VT :=
  (.need (.t true) (.pre 19 (.cons (.var 0) .nil))
  (.lt (.app 19 (.cons (.var 0) .nil) 0) 1
  (.ite (.un .not (.var 1))
   (.need (.t true) (.pre 8 .nil)
   (.lt (.app 8 .nil 0) 1
   (.ret (.cons (.var 2) .nil))))
   (.need (.t true) (.pre 12 (.cons (.var 0) .nil))
   (.lt (.app 12 (.cons (.var 0) .nil) 0) 1
   (.need (.t true) (.pre 9 (.cons (.var 0) .nil))
   (.lt (.app 9 (.cons (.var 0) .nil) 0) 2
   (.ite (.ite (.ite (.un .not (.bin .eq (.var 4) (.n 0))) (.t true) (.un .not (.bin .eq (.un .len (.var 2)) (.un .len (.var 0))))) (.t true) (.un .not (.bin .eq (.un .len (.var 3)) (.un .len (.var 0)))))
    (.ret (.cons (.t false) .nil))
    (.need (.t true) (.pre 20 (.cons (.var 0) .nil))
    (.lt (.app 20 (.cons (.var 0) .nil) 0) 1
    (.need (.t true) (.pre 10601 (.cons (.var 0) (.cons (.t false) (.cons (.un .len (.var 0)) (.cons (.var 2) (.cons (.var 3) (.cons (.var 5) (.cons (.n 0) .nil))))))))
    (.lt (.app 10601 (.cons (.var 0) (.cons (.t false) (.cons (.un .len (.var 0)) (.cons (.var 2) (.cons (.var 3) (.cons (.var 5) (.cons (.n 0) .nil))))))) 0) 3
    (.ite (.bin .eq (.var 6) (.n 0))
     (.ret (.cons (.var 7) .nil))
     (.need (.t true) (.pre 8 .nil)
     (.lt (.app 8 .nil 0) 1
     (.ret (.cons (.var 9) .nil)))))))))))))))))
theorem e6 : (fnVT Try.prog (sgOf sg6) (ltOf lt6) S6 Try.f6 c6).slim (S6.ps.map fun p => p.2.length).sum [] = vt6 := by kernel_rfl

/-! ### 21 -/
def S21 : Sig := ⟨[(false, [(.int .i64)]), (false, [(.int .i64)]), (false, [(.int .i64)])], [(false, [.bool])], [], none⟩
noncomputable def c21 : Code := Try.f21.body.getD .skip
theorem b21 : Try.f21.body = some c21 := body_some (by kernel_rfl)
theorem n21 : (Try.f21.name == "runtime.NumGoroutine") = false := by kernel_rfl
def sg21 : List (FuncId × Sig) := []
def lt21 : List (Nat × LoopSig) := []
theorem k21 : (Code.loops c21).length = 0 := by kernel_rfl
def vt21 : VT :=
  (.ret (.cons (.ite (.bin .le (.var 2) (.bin (.sub .i64) (.var 0) (.var 1))) (.t true) (.bin .le (.var 2) (.bin (.sub .i64) (.var 1) (.var 0)))) .nil))
theorem e21 : (fnVT Try.prog (sgOf sg21) (ltOf lt21) S21 Try.f21 c21).slim (S21.ps.map fun p => p.2.length).sum [] = vt21 := by kernel_rfl
def T21 : FuncId → List D → List D := tabOf []
def fn21 (ρ : List D) : List D := vt21.val T21 ρ
theorem m21 : Meets Try.prog 21 S21 (fun _ => True) fn21 := meets_easy (sgl := sg21) (Φ := T21) mixed ((fun _ h => nomatch h)) Try.func21 b21 n21 k21 e21 (by kernel_rfl)

/-! ### 7 -/
def S7 : Sig := ⟨[(false, [(.sl 3 [(.int .i64)])]), (false, [(.int .i64)])], [(false, [.bool])], [], none⟩
noncomputable def c7 : Code := Try.f7.body.getD .skip
theorem b7 : Try.f7.body = some c7 := body_some (by kernel_rfl)
theorem n7 : (Try.f7.name == "runtime.NumGoroutine") = false := by kernel_rfl
def sg7 : List (FuncId × Sig) := [(19, S19), (8, S8), (17, S17), (14, S14), (21, S21)]
def L7_0 : LoopSig := ⟨10701, [],
   ⟨[.any, (.c (.x (.int .i64) (.var 0))), .any, .any, (.c (.x .bool (.var 1))), (.c (.x (.sl 39 [(.int .i64), (.int .i64)]) (.var 2))), .any, (.c (.x (.int .i64) (.var 3))), .any, .any, .any, .any, .any, .any, .any, .any, .any, .any, .any, .any, .any, .any, .any, .any, .any, .any, .any, .any, .any, .any, .any, .any, .any, .any, .any, .any, .any, .any, .any, .any, .any, .any, .any, .any, .any, .any, .any, .any, .any, .any, .any, .any, .any, .any, .any, .any, .any, .any, .any, .any, .any, .any, .any, .any, .any, .any, .any, .any, .any, .any, .any, .any, .any, .any, .any, .any, .any, .any, .any, .any, .any, .any],
    []⟩,
   4, [1, 3], [42, 43, 44, 45, 8, 48, 49, 50, 53, 54, 55, 56, 57, 58, 59, 60, 61, 62, 63, 64, 65, 66, 67, 68, 69, 70, 71, 72, 73, 74, 75, 76, 77, 78, 79, 80, 4, 51, 52, 46, 47, 7], [.ret, (.exit 0)], []⟩
def L7_1 : LoopSig := ⟨10700, [],
   ⟨[.any, (.c (.x (.int .i64) (.var 0))), .any, .any, (.c (.x .bool (.var 1))), (.c (.x (.sl 39 [(.int .i64), (.int .i64)]) (.var 2))), .any, (.c (.x (.int .i64) (.var 3))), (.c (.x (.int .i64) (.var 4))), .any, .any, .any, .any, .any, .any, .any, .any, .any, .any, .any, .any, .any, .any, .any, .any, .any, .any, .any, .any, .any, .any, .any, .any, .any, .any, .any, .any, .any, .any, .any, .any, .any, .any, .any, .any, .any, .any, .any, .any, .any, .any, .any, .any, .any, .any, .any, .any, .any, .any, .any, .any, .any, .any, .any, .any, .any, .any, .any, .any, .any, .any, .any, .any, .any, .any, .any, .any, .any, .any, .any, .any, .any],
    []⟩,
   5, [1, 4], [48, 49, 50, 53, 54, 55, 56, 57, 58, 59, 60, 61, 62, 63, 64, 65, 66, 67, 68, 69, 70, 71, 72, 73, 74, 75, 76, 77, 78, 79, 80, 4, 51, 52, 8], [.ret, (.exit 2)], []⟩
def lt7 : List (Nat × LoopSig) := [(9, L7_0), (12, L7_1)]
theorem k7 : (Code.loops c7).length = 2 := by kernel_rfl
noncomputable def lb7_0 : Code := (Code.loops c7).getD 0 .skip
noncomputable def lb7_1 : Code := (Code.loops c7).getD 1 .skip
def rt7_0 : VT :=
  (.ite (.bin .lt (.var 3) (.un .len (.var 2)))
   (.need (.t true) (.pre 10700 (.cons (.var 0) (.cons (.var 1) (.cons (.var 2) (.cons (.var 3) (.cons (.n 0) .nil))))))
   (.lt (.app 10700 (.cons (.var 0) (.cons (.var 1) (.cons (.var 2) (.cons (.var 3) (.cons (.n 0) .nil))))) 0) 3
   (.ite (.bin .eq (.var 4) (.n 0))
    (.ret (.cons (.n 0) (.cons (.var 5) (.cons (.var 3) .nil))))
    (.ret (.cons (.n (-1)) (.cons (.var 5) (.cons (.bin (.add .i64) (.var 3) (.n 1)) .nil)))))))
   (.ret (.cons (.n 1) (.cons (.var 1) (.cons (.var 3) .nil)))))
theorem le7_0 : (loopVT Try.prog (sgOf sg7) (ltOf lt7) L7_0 lb7_0).slim L7_0.nv [] = rt7_0 := by kernel_rfl
theorem lf7_0 : (firstRegion lb7_0).bind (ltOf lt7) = some L7_0 := by kernel_rfl
theorem lk7_0 : (Code.loops lb7_0).length = 1 := by kernel_rfl
theorem li7_0_0 : (Code.loops lb7_0).getD 0 .skip = lb7_1 := by kernel_rfl
def rt7_1 : VT :=
  (.ite (.bin .lt (.var 4) (.var 3))
   (.need (.t true) (.c (.bin .le (.n 0) (.var 4)))
   (.need (.t true) (.c (.bin .lt (.var 4) (.un .len (.var 2))))
   (.need (.t true) (.c (.bin .le (.n 0) (.var 3)))
   (.need (.t true) (.c (.bin .lt (.var 3) (.un .len (.var 2))))
   (.need (.t true) (.pre 21 (.cons (.sel 0 (.var 2) (.var 4)) (.cons (.sel 0 (.var 2) (.var 3)) (.cons (.var 0) .nil))))
   (.lt (.app 21 (.cons (.sel 0 (.var 2) (.var 4)) (.cons (.sel 0 (.var 2) (.var 3)) (.cons (.var 0) .nil))) 0) 1
   (.need (.un .not (.var 5)) (.pre 21 (.cons (.sel 1 (.var 2) (.var 4)) (.cons (.sel 1 (.var 2) (.var 3)) (.cons (.var 0) .nil))))
   (.lt (.app 21 (.cons (.sel 1 (.var 2) (.var 4)) (.cons (.sel 1 (.var 2) (.var 3)) (.cons (.var 0) .nil))) 0) 1
   (.ite (.ite (.un .not (.var 5)) (.un .not (.var 6)) (.t false))
    (.ret (.cons (.n 0) (.cons (.t false) (.cons (.var 4) .nil))))
    (.ret (.cons (.n (-1)) (.cons (.var 1) (.cons (.bin (.add .i64) (.var 4) (.n 1)) .nil)))))))))))))
   (.ret (.cons (.n 1) (.cons (.var 1) (.cons (.var 4) .nil)))))
theorem le7_1 : (loopVT Try.prog (sgOf sg7) (ltOf lt7) L7_1 lb7_1).slim L7_1.nv [] = rt7_1 := by kernel_rfl
theorem lf7_1 : (firstRegion lb7_1).bind (ltOf lt7) = some L7_1 := by kernel_rfl
theorem lk7_1 : (Code.loops lb7_1).length = 0 := by kernel_rfl
def vt7 : VT :=
  (.need (.t true) (.pre 19 (.cons (.var 0) .nil))
  (.lt (.app 19 (.cons (.var 0) .nil) 0) 1
  (.ite (.ite (.ite (.un .not (.var 2)) (.t true) (.bin .lt (.var 1) (.n 0))) (.t true) (.bin .lt (.n 1048576) (.var 1)))
   (.need (.t true) (.pre 8 .nil)
   (.lt (.app 8 .nil 0) 1
   (.ret (.cons (.var 3) .nil))))
   (.need (.t true) (.pre 17 (.cons (.un .len (.var 0)) (.cons (.var 1) .nil)))
   (.lt (.app 17 (.cons (.un .len (.var 0)) (.cons (.var 1) .nil)) 0) 1
   (.need (.t true) (.pre 14 (.cons (.var 0) (.cons (.var 3) .nil)))
   (.lt (.app 14 (.cons (.var 0) (.cons (.var 3) .nil)) 0) 2
   (.ite (.un .not (.bin .eq (.var 5) (.n 0)))
    (.need (.bin .eq (.var 5) (.n 2)) (.pre 8 .nil)
    (.lt (.app 8 .nil 0) 1
    (.ret (.cons (.ite (.bin .eq (.var 5) (.n 2)) (.var 6) (.t false)) .nil))))
    (.ite (.un .not (.bin .eq (.un .len (.var 4)) (.un .len (.var 0))))
     (.ret (.cons (.t false) .nil))
     (.need (.t true) (.pre 10701 (.cons (.var 1) (.cons (.t false) (.cons (.var 4) (.cons (.n 0) .nil)))))
     (.lt (.app 10701 (.cons (.var 1) (.cons (.t false) (.cons (.var 4) (.cons (.n 0) .nil)))) 0) 3
     (.ite (.bin .eq (.var 6) (.n 0))
      (.ret (.cons (.var 7) .nil))
      (.need (.t true) (.pre 8 .nil)
      (.lt (.app 8 .nil 0) 1
      (.ret (.cons (.var 9) .nil))))))))))))))))
theorem e7 : (fnVT Try.prog (sgOf sg7) (ltOf lt7) S7 Try.f7 c7).slim (S7.ps.map fun p => p.2.length).sum [] = vt7 := by kernel_rfl

end Go.Proofs.Ytdehhmcfhaeheaa.rv
