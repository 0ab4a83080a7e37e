/-
  The functions of the program as they are run: printed by program.
-/
import Derived.Test.YteajmcpjcbjolaaRvUse
import Derived.Test.YteajmcpjcbjolaaChecked
namespace Go.Proofs.Yteajmcpjcbjolaa.rv
open Go.RV
set_option maxRecDepth 100000
theorem mixed : Try.prog.follows .mixedOrders = true := by kernel_rfl
/-! ### 31 -/
def S31 : Sig := ⟨[(true, [(.int .i64), (.int .i64)])], [(false, [.bool])]⟩
noncomputable def c31 : Code := Try.f31.body.getD .skip
theorem b31 : Try.f31.body = some c31 := body_some (by kernel_rfl)
theorem n31 : (Try.f31.name == "runtime.NumGoroutine") = false := by kernel_rfl
def sg31 : List (FuncId × Sig) := []
def lt31 : List (Nat × LoopSig) := []
theorem k31 : (Code.loops c31).length = 0 := by kernel_rfl
def vt31 : VT :=
  (.ret (.cons (.ite (.ite (.ite (.bin .le (.n (-268435456)) (.var 0)) (.bin .le (.var 0) (.n 268435456)) (.t false)) (.bin .le (.n (-268435456)) (.var 1)) (.t false)) (.bin .le (.var 1) (.n 268435456)) (.t false)) .nil))
theorem e31 : fnVT Try.prog (sgOf sg31) (ltOf lt31) S31 Try.f31 c31 = vt31 := by kernel_rfl
def T31 : FuncId → List D → List D := tabOf []
def fn31 (ρ : List D) : List D := vt31.val T31 ρ
theorem m31 : Meets Try.prog 31 S31 (fun _ => True) fn31 := meets_easy (sgl := sg31) (Φ := T31) mixed ((fun _ h => nomatch h)) Try.func31 b31 n31 k31 e31 (by kernel_rfl)

/-! ### 9 -/
def S9 : Sig := ⟨[(true, [(.int .i64), (.int .i64), (.int .i64), (.int .i64)])], [(false, [.bool])]⟩
noncomputable def c9 : Code := Try.f9.body.getD .skip
theorem b9 : Try.f9.body = some c9 := body_some (by kernel_rfl)
theorem n9 : (Try.f9.name == "runtime.NumGoroutine") = false := by kernel_rfl
def sg9 : List (FuncId × Sig) := [(31, S31)]
def lt9 : List (Nat × LoopSig) := []
theorem k9 : (Code.loops c9).length = 0 := by kernel_rfl
def vt9 : VT :=
  (.need (.t true) (.pre 31 (.cons (.var 0) (.cons (.var 1) .nil)))
  (.need (.app 31 (.cons (.var 0) (.cons (.var 1) .nil)) 0) (.pre 31 (.cons (.var 2) (.cons (.var 3) .nil)))
  (.ret (.cons (.ite (.ite (.ite (.app 31 (.cons (.var 0) (.cons (.var 1) .nil)) 0) (.app 31 (.cons (.var 2) (.cons (.var 3) .nil)) 0) (.t false)) (.bin .le (.var 0) (.var 2)) (.t false)) (.bin .le (.var 1) (.var 3)) (.t false)) .nil))))
theorem e9 : fnVT Try.prog (sgOf sg9) (ltOf lt9) S9 Try.f9 c9 = vt9 := by kernel_rfl
def T9 : FuncId → List D → List D := tabOf [(31, fn31)]
def fn9 (ρ : List D) : List D := vt9.val T9 ρ
theorem m9 : Meets Try.prog 9 S9 (fun _ => True) fn9 := meets_easy (sgl := sg9) (Φ := T9) mixed (List.forall_mem_cons.2 ⟨m31, (fun _ h => nomatch h)⟩) Try.func9 b9 n9 k9 e9 (by kernel_rfl)

/-! ### 21 -/
def S21 : Sig := ⟨[(true, [(.int .i64), (.int .i64)])], [(false, [.bool])]⟩
noncomputable def c21 : Code := Try.f21.body.getD .skip
theorem b21 : Try.f21.body = some c21 := body_some (by kernel_rfl)
theorem n21 : (Try.f21.name == "runtime.NumGoroutine") = false := by kernel_rfl
def sg21 : List (FuncId × Sig) := []
def lt21 : List (Nat × LoopSig) := []
theorem k21 : (Code.loops c21).length = 0 := by kernel_rfl
def vt21 : VT :=
  (.ret (.cons (.ite (.ite (.ite (.bin .le (.n (-268435456)) (.var 0)) (.bin .le (.var 0) (.n 268435456)) (.t false)) (.bin .le (.n (-268435456)) (.var 1)) (.t false)) (.bin .le (.var 1) (.n 268435456)) (.t false)) .nil))
theorem e21 : fnVT Try.prog (sgOf sg21) (ltOf lt21) S21 Try.f21 c21 = vt21 := by kernel_rfl
def T21 : FuncId → List D → List D := tabOf []
def fn21 (ρ : List D) : List D := vt21.val T21 ρ
theorem m21 : Meets Try.prog 21 S21 (fun _ => True) fn21 := meets_easy (sgl := sg21) (Φ := T21) mixed ((fun _ h => nomatch h)) Try.func21 b21 n21 k21 e21 (by kernel_rfl)

/-! ### 10 -/
def S10 : Sig := ⟨[(true, [(.int .i64), (.int .i64), (.int .i64), (.int .i64)])], [(false, [.bool])]⟩
noncomputable def c10 : Code := Try.f10.body.getD .skip
theorem b10 : Try.f10.body = some c10 := body_some (by kernel_rfl)
theorem n10 : (Try.f10.name == "runtime.NumGoroutine") = false := by kernel_rfl
def sg10 : List (FuncId × Sig) := [(21, S21)]
def lt10 : List (Nat × LoopSig) := []
theorem k10 : (Code.loops c10).length = 0 := by kernel_rfl
def vt10 : VT :=
  (.need (.t true) (.pre 21 (.cons (.var 0) (.cons (.var 1) .nil)))
  (.need (.app 21 (.cons (.var 0) (.cons (.var 1) .nil)) 0) (.pre 21 (.cons (.var 2) (.cons (.var 3) .nil)))
  (.ret (.cons (.ite (.ite (.ite (.app 21 (.cons (.var 0) (.cons (.var 1) .nil)) 0) (.app 21 (.cons (.var 2) (.cons (.var 3) .nil)) 0) (.t false)) (.bin .le (.var 0) (.var 2)) (.t false)) (.bin .le (.var 1) (.var 3)) (.t false)) .nil))))
theorem e10 : fnVT Try.prog (sgOf sg10) (ltOf lt10) S10 Try.f10 c10 = vt10 := by kernel_rfl
def T10 : FuncId → List D → List D := tabOf [(21, fn21)]
def fn10 (ρ : List D) : List D := vt10.val T10 ρ
theorem m10 : Meets Try.prog 10 S10 (fun _ => True) fn10 := meets_easy (sgl := sg10) (Φ := T10) mixed (List.forall_mem_cons.2 ⟨m21, (fun _ h => nomatch h)⟩) Try.func10 b10 n10 k10 e10 (by kernel_rfl)

/-! ### 11 -/
def S11 : Sig := ⟨[(true, [(.int .i64), (.int .i64), (.int .i64), (.int .i64)])], [(true, [(.int .i64), (.int .i64)])]⟩
noncomputable def c11 : Code := Try.f11.body.getD .skip
theorem b11 : Try.f11.body = some c11 := body_some (by kernel_rfl)
theorem n11 : (Try.f11.name == "runtime.NumGoroutine") = false := by kernel_rfl
def sg11 : List (FuncId × Sig) := [(9, S9)]
def lt11 : List (Nat × LoopSig) := []
theorem k11 : (Code.loops c11).length = 0 := by kernel_rfl
def vt11 : VT :=
  (.need (.t true) (.pre 9 (.cons (.var 0) (.cons (.var 1) (.cons (.var 2) (.cons (.var 3) .nil)))))
  (.ite (.un .not (.app 9 (.cons (.var 0) (.cons (.var 1) (.cons (.var 2) (.cons (.var 3) .nil)))) 0))
   (.ret (.cons (.n 0) (.cons (.n 0) .nil)))
   (.ret (.cons (.bin (.shr .i64) (.bin (.add .i64) (.var 0) (.var 2)) (.n 1)) (.cons (.bin (.shr .i64) (.bin (.add .i64) (.var 1) (.var 3)) (.n 1)) .nil)))))
theorem e11 : fnVT Try.prog (sgOf sg11) (ltOf lt11) S11 Try.f11 c11 = vt11 := by kernel_rfl
def T11 : FuncId → List D → List D := tabOf [(9, fn9)]
def fn11 (ρ : List D) : List D := vt11.val T11 ρ
theorem m11 : Meets Try.prog 11 S11 (fun _ => True) fn11 := meets_easy (sgl := sg11) (Φ := T11) mixed (List.forall_mem_cons.2 ⟨m9, (fun _ h => nomatch h)⟩) Try.func11 b11 n11 k11 e11 (by kernel_rfl)

/-! ### 32 -/
def S32 : Sig := ⟨[(false, [(.int .i64)])], [(false, [(.int .i64)])]⟩
noncomputable def c32 : Code := Try.f32.body.getD .skip
theorem b32 : Try.f32.body = some c32 := body_some (by kernel_rfl)
theorem n32 : (Try.f32.name == "runtime.NumGoroutine") = false := by kernel_rfl
def sg32 : List (FuncId × Sig) := []
def lt32 : List (Nat × LoopSig) := []
theorem k32 : (Code.loops c32).length = 0 := by kernel_rfl
def vt32 : VT :=
  (.ite (.ite (.bin .lt (.var 0) (.n 0)) (.un .not (.bin .eq (.bin (.rem .i64) (.var 0) (.n 2)) (.n 0))) (.t false))
   (.ret (.cons (.bin (.sub .i64) (.bin (.quo .i64) (.var 0) (.n 2)) (.n 1)) .nil))
   (.ret (.cons (.bin (.quo .i64) (.var 0) (.n 2)) .nil)))
theorem e32 : fnVT Try.prog (sgOf sg32) (ltOf lt32) S32 Try.f32 c32 = vt32 := by kernel_rfl
def T32 : FuncId → List D → List D := tabOf []
def fn32 (ρ : List D) : List D := vt32.val T32 ρ
theorem m32 : Meets Try.prog 32 S32 (fun _ => True) fn32 := meets_easy (sgl := sg32) (Φ := T32) mixed ((fun _ h => nomatch h)) Try.func32 b32 n32 k32 e32 (by kernel_rfl)

/-! ### 12 -/
def S12 : Sig := ⟨[(true, [(.int .i64), (.int .i64), (.int .i64), (.int .i64)])], [(true, [(.int .i64), (.int .i64)])]⟩
noncomputable def c12 : Code := Try.f12.body.getD .skip
theorem b12 : Try.f12.body = some c12 := body_some (by kernel_rfl)
theorem n12 : (Try.f12.name == "runtime.NumGoroutine") = false := by kernel_rfl
def sg12 : List (FuncId × Sig) := [(10, S10), (32, S32)]
def lt12 : List (Nat × LoopSig) := []
theorem k12 : (Code.loops c12).length = 0 := by kernel_rfl
def vt12 : VT :=
  (.need (.t true) (.pre 10 (.cons (.var 0) (.cons (.var 1) (.cons (.var 2) (.cons (.var 3) .nil)))))
  (.ite (.un .not (.app 10 (.cons (.var 0) (.cons (.var 1) (.cons (.var 2) (.cons (.var 3) .nil)))) 0))
   (.ret (.cons (.n 0) (.cons (.n 0) .nil)))
   (.need (.t true) (.pre 32 (.cons (.bin (.add .i64) (.var 0) (.var 2)) .nil))
   (.need (.t true) (.pre 32 (.cons (.bin (.add .i64) (.var 1) (.var 3)) .nil))
   (.ret (.cons (.app 32 (.cons (.bin (.add .i64) (.var 0) (.var 2)) .nil) 0) (.cons (.app 32 (.cons (.bin (.add .i64) (.var 1) (.var 3)) .nil) 0) .nil)))))))
theorem e12 : fnVT Try.prog (sgOf sg12) (ltOf lt12) S12 Try.f12 c12 = vt12 := by kernel_rfl
def T12 : FuncId → List D → List D := tabOf [(10, fn10), (32, fn32)]
def fn12 (ρ : List D) : List D := vt12.val T12 ρ
theorem m12 : Meets Try.prog 12 S12 (fun _ => True) fn12 := meets_easy (sgl := sg12) (Φ := T12) mixed (List.forall_mem_cons.2 ⟨m10, List.forall_mem_cons.2 ⟨m32, (fun _ h => nomatch h)⟩⟩) Try.func12 b12 n12 k12 e12 (by kernel_rfl)

/-! ### 33 -/
def S33 : Sig := ⟨[(true, [(.int .i64), (.int .i64), (.int .i64), (.int .i64)])], [(true, [(.int .i64), (.int .i64), (.int .i64), (.int .i64)])]⟩
noncomputable def c33 : Code := Try.f33.body.getD .skip
theorem b33 : Try.f33.body = some c33 := body_some (by kernel_rfl)
theorem n33 : (Try.f33.name == "runtime.NumGoroutine") = false := by kernel_rfl
def sg33 : List (FuncId × Sig) := [(9, S9)]
def lt33 : List (Nat × LoopSig) := []
theorem k33 : (Code.loops c33).length = 0 := by kernel_rfl
def vt33 : VT :=
  (.need (.t true) (.pre 9 (.cons (.var 0) (.cons (.var 1) (.cons (.var 2) (.cons (.var 3) .nil)))))
  (.ite (.un .not (.app 9 (.cons (.var 0) (.cons (.var 1) (.cons (.var 2) (.cons (.var 3) .nil)))) 0))
   (.ret (.cons (.n 0) (.cons (.n 0) (.cons (.n 0) (.cons (.n 0) .nil)))))
   (.ret (.cons (.var 0) (.cons (.var 1) (.cons (.var 2) (.cons (.var 3) .nil)))))))
theorem e33 : fnVT Try.prog (sgOf sg33) (ltOf lt33) S33 Try.f33 c33 = vt33 := by kernel_rfl
def T33 : FuncId → List D → List D := tabOf [(9, fn9)]
def fn33 (ρ : List D) : List D := vt33.val T33 ρ
theorem m33 : Meets Try.prog 33 S33 (fun _ => True) fn33 := meets_easy (sgl := sg33) (Φ := T33) mixed (List.forall_mem_cons.2 ⟨m9, (fun _ h => nomatch h)⟩) Try.func33 b33 n33 k33 e33 (by kernel_rfl)

/-! ### 13 -/
def S13 : Sig := ⟨[(true, [(.int .i64), (.int .i64)]), (false, [(.int .i64)]), (false, [(.int .i64)])], [(true, [(.int .i64), (.int .i64), (.int .i64), (.int .i64)])]⟩
noncomputable def c13 : Code := Try.f13.body.getD .skip
theorem b13 : Try.f13.body = some c13 := body_some (by kernel_rfl)
theorem n13 : (Try.f13.name == "runtime.NumGoroutine") = false := by kernel_rfl
def sg13 : List (FuncId × Sig) := [(31, S31), (33, S33)]
def lt13 : List (Nat × LoopSig) := []
theorem k13 : (Code.loops c13).length = 0 := by kernel_rfl
def vt13 : VT :=
  (.need (.t true) (.pre 31 (.cons (.var 0) (.cons (.var 1) .nil)))
  (.ite (.ite (.ite (.ite (.ite (.un .not (.app 31 (.cons (.var 0) (.cons (.var 1) .nil)) 0)) (.t true) (.bin .lt (.var 2) (.n 0))) (.t true) (.bin .lt (.n 1048576) (.var 2))) (.t true) (.bin .lt (.var 3) (.n 0))) (.t true) (.bin .lt (.n 1048576) (.var 3)))
   (.ret (.cons (.n 0) (.cons (.n 0) (.cons (.n 0) (.cons (.n 0) .nil)))))
   (.need (.t true) (.pre 33 (.cons (.bin (.sub .i64) (.var 0) (.bin (.quo .i64) (.var 2) (.n 2))) (.cons (.bin (.sub .i64) (.var 1) (.bin (.quo .i64) (.var 3) (.n 2))) (.cons (.bin (.add .i64) (.bin (.sub .i64) (.var 0) (.bin (.quo .i64) (.var 2) (.n 2))) (.var 2)) (.cons (.bin (.add .i64) (.bin (.sub .i64) (.var 1) (.bin (.quo .i64) (.var 3) (.n 2))) (.var 3)) .nil)))))
   (.ret (.cons (.app 33 (.cons (.bin (.sub .i64) (.var 0) (.bin (.quo .i64) (.var 2) (.n 2))) (.cons (.bin (.sub .i64) (.var 1) (.bin (.quo .i64) (.var 3) (.n 2))) (.cons (.bin (.add .i64) (.bin (.sub .i64) (.var 0) (.bin (.quo .i64) (.var 2) (.n 2))) (.var 2)) (.cons (.bin (.add .i64) (.bin (.sub .i64) (.var 1) (.bin (.quo .i64) (.var 3) (.n 2))) (.var 3)) .nil)))) 0) (.cons (.app 33 (.cons (.bin (.sub .i64) (.var 0) (.bin (.quo .i64) (.var 2) (.n 2))) (.cons (.bin (.sub .i64) (.var 1) (.bin (.quo .i64) (.var 3) (.n 2))) (.cons (.bin (.add .i64) (.bin (.sub .i64) (.var 0) (.bin (.quo .i64) (.var 2) (.n 2))) (.var 2)) (.cons (.bin (.add .i64) (.bin (.sub .i64) (.var 1) (.bin (.quo .i64) (.var 3) (.n 2))) (.var 3)) .nil)))) 1) (.cons (.app 33 (.cons (.bin (.sub .i64) (.var 0) (.bin (.quo .i64) (.var 2) (.n 2))) (.cons (.bin (.sub .i64) (.var 1) (.bin (.quo .i64) (.var 3) (.n 2))) (.cons (.bin (.add .i64) (.bin (.sub .i64) (.var 0) (.bin (.quo .i64) (.var 2) (.n 2))) (.var 2)) (.cons (.bin (.add .i64) (.bin (.sub .i64) (.var 1) (.bin (.quo .i64) (.var 3) (.n 2))) (.var 3)) .nil)))) 2) (.cons (.app 33 (.cons (.bin (.sub .i64) (.var 0) (.bin (.quo .i64) (.var 2) (.n 2))) (.cons (.bin (.sub .i64) (.var 1) (.bin (.quo .i64) (.var 3) (.n 2))) (.cons (.bin (.add .i64) (.bin (.sub .i64) (.var 0) (.bin (.quo .i64) (.var 2) (.n 2))) (.var 2)) (.cons (.bin (.add .i64) (.bin (.sub .i64) (.var 1) (.bin (.quo .i64) (.var 3) (.n 2))) (.var 3)) .nil)))) 3) .nil))))))))
theorem e13 : fnVT Try.prog (sgOf sg13) (ltOf lt13) S13 Try.f13 c13 = vt13 := by kernel_rfl
def T13 : FuncId → List D → List D := tabOf [(31, fn31), (33, fn33)]
def fn13 (ρ : List D) : List D := vt13.val T13 ρ
theorem m13 : Meets Try.prog 13 S13 (fun _ => True) fn13 := meets_easy (sgl := sg13) (Φ := T13) mixed (List.forall_mem_cons.2 ⟨m31, List.forall_mem_cons.2 ⟨m33, (fun _ h => nomatch h)⟩⟩) Try.func13 b13 n13 k13 e13 (by kernel_rfl)

/-! ### 14 -/
def S14 : Sig := ⟨[(true, [(.int .i64), (.int .i64)]), (false, [(.int .i64)]), (false, [(.int .i64)])], [(true, [(.int .i64), (.int .i64), (.int .i64), (.int .i64)])]⟩
noncomputable def c14 : Code := Try.f14.body.getD .skip
theorem b14 : Try.f14.body = some c14 := body_some (by kernel_rfl)
theorem n14 : (Try.f14.name == "runtime.NumGoroutine") = false := by kernel_rfl
def sg14 : List (FuncId × Sig) := [(21, S21), (10, S10)]
def lt14 : List (Nat × LoopSig) := []
theorem k14 : (Code.loops c14).length = 0 := by kernel_rfl
def vt14 : VT :=
  (.need (.t true) (.pre 21 (.cons (.var 0) (.cons (.var 1) .nil)))
  (.ite (.ite (.ite (.ite (.ite (.un .not (.app 21 (.cons (.var 0) (.cons (.var 1) .nil)) 0)) (.t true) (.bin .lt (.var 2) (.n 0))) (.t true) (.bin .lt (.n 1048576) (.var 2))) (.t true) (.bin .lt (.var 3) (.n 0))) (.t true) (.bin .lt (.n 1048576) (.var 3)))
   (.ret (.cons (.n 0) (.cons (.n 0) (.cons (.n 0) (.cons (.n 0) .nil)))))
   (.need (.t true) (.pre 10 (.cons (.bin (.sub .i64) (.var 0) (.bin (.quo .i64) (.var 2) (.n 2))) (.cons (.bin (.sub .i64) (.var 1) (.bin (.quo .i64) (.var 3) (.n 2))) (.cons (.bin (.add .i64) (.bin (.sub .i64) (.var 0) (.bin (.quo .i64) (.var 2) (.n 2))) (.var 2)) (.cons (.bin (.add .i64) (.bin (.sub .i64) (.var 1) (.bin (.quo .i64) (.var 3) (.n 2))) (.var 3)) .nil)))))
   (.ite (.un .not (.app 10 (.cons (.bin (.sub .i64) (.var 0) (.bin (.quo .i64) (.var 2) (.n 2))) (.cons (.bin (.sub .i64) (.var 1) (.bin (.quo .i64) (.var 3) (.n 2))) (.cons (.bin (.add .i64) (.bin (.sub .i64) (.var 0) (.bin (.quo .i64) (.var 2) (.n 2))) (.var 2)) (.cons (.bin (.add .i64) (.bin (.sub .i64) (.var 1) (.bin (.quo .i64) (.var 3) (.n 2))) (.var 3)) .nil)))) 0))
    (.ret (.cons (.n 0) (.cons (.n 0) (.cons (.n 0) (.cons (.n 0) .nil)))))
    (.ret (.cons (.bin (.sub .i64) (.var 0) (.bin (.quo .i64) (.var 2) (.n 2))) (.cons (.bin (.sub .i64) (.var 1) (.bin (.quo .i64) (.var 3) (.n 2))) (.cons (.bin (.add .i64) (.bin (.sub .i64) (.var 0) (.bin (.quo .i64) (.var 2) (.n 2))) (.var 2)) (.cons (.bin (.add .i64) (.bin (.sub .i64) (.var 1) (.bin (.quo .i64) (.var 3) (.n 2))) (.var 3)) .nil)))))))))
theorem e14 : fnVT Try.prog (sgOf sg14) (ltOf lt14) S14 Try.f14 c14 = vt14 := by kernel_rfl
def T14 : FuncId → List D → List D := tabOf [(21, fn21), (10, fn10)]
def fn14 (ρ : List D) : List D := vt14.val T14 ρ
theorem m14 : Meets Try.prog 14 S14 (fun _ => True) fn14 := meets_easy (sgl := sg14) (Φ := T14) mixed (List.forall_mem_cons.2 ⟨m21, List.forall_mem_cons.2 ⟨m10, (fun _ h => nomatch h)⟩⟩) Try.func14 b14 n14 k14 e14 (by kernel_rfl)

/-! ### 18 -/
def S18 : Sig := ⟨[(true, [(.int .i64), (.int .i64), (.int .i64), (.int .i64)]), (true, [(.int .i64), (.int .i64), (.int .i64), (.int .i64)])], [(false, [.bool])]⟩
noncomputable def c18 : Code := Try.f18.body.getD .skip
theorem b18 : Try.f18.body = some c18 := body_some (by kernel_rfl)
theorem n18 : (Try.f18.name == "runtime.NumGoroutine") = false := by kernel_rfl
def sg18 : List (FuncId × Sig) := [(9, S9)]
def lt18 : List (Nat × LoopSig) := []
theorem k18 : (Code.loops c18).length = 0 := by kernel_rfl
def vt18 : VT :=
  (.need (.t true) (.pre 9 (.cons (.var 0) (.cons (.var 1) (.cons (.var 2) (.cons (.var 3) .nil)))))
  (.need (.app 9 (.cons (.var 0) (.cons (.var 1) (.cons (.var 2) (.cons (.var 3) .nil)))) 0) (.pre 9 (.cons (.var 4) (.cons (.var 5) (.cons (.var 6) (.cons (.var 7) .nil)))))
  (.ret (.cons (.ite (.ite (.ite (.app 9 (.cons (.var 0) (.cons (.var 1) (.cons (.var 2) (.cons (.var 3) .nil)))) 0) (.app 9 (.cons (.var 4) (.cons (.var 5) (.cons (.var 6) (.cons (.var 7) .nil)))) 0) (.t false)) (.bin .lt (.bin .max (.var 0) (.var 4)) (.bin .min (.var 2) (.var 6))) (.t false)) (.bin .lt (.bin .max (.var 1) (.var 5)) (.bin .min (.var 3) (.var 7))) (.t false)) .nil))))
theorem e18 : fnVT Try.prog (sgOf sg18) (ltOf lt18) S18 Try.f18 c18 = vt18 := by kernel_rfl
def T18 : FuncId → List D → List D := tabOf [(9, fn9)]
def fn18 (ρ : List D) : List D := vt18.val T18 ρ
theorem m18 : Meets Try.prog 18 S18 (fun _ => True) fn18 := meets_easy (sgl := sg18) (Φ := T18) mixed (List.forall_mem_cons.2 ⟨m9, (fun _ h => nomatch h)⟩) Try.func18 b18 n18 k18 e18 (by kernel_rfl)

/-! ### 37 -/
def S37 : Sig := ⟨[(true, [(.int .i64), (.int .i64)]), (true, [(.int .i64), (.int .i64)])], [(false, [.bool])]⟩
noncomputable def c37 : Code := Try.f37.body.getD .skip
theorem b37 : Try.f37.body = some c37 := body_some (by kernel_rfl)
theorem n37 : (Try.f37.name == "runtime.NumGoroutine") = false := by kernel_rfl
def sg37 : List (FuncId × Sig) := []
def lt37 : List (Nat × LoopSig) := []
theorem k37 : (Code.loops c37).length = 0 := by kernel_rfl
def vt37 : VT :=
  (.ret (.cons (.bin .lt (.bin (.mul .i64) (.var 0) (.var 3)) (.bin (.mul .i64) (.var 2) (.var 1))) .nil))
theorem e37 : fnVT Try.prog (sgOf sg37) (ltOf lt37) S37 Try.f37 c37 = vt37 := by kernel_rfl
def T37 : FuncId → List D → List D := tabOf []
def fn37 (ρ : List D) : List D := vt37.val T37 ρ
theorem m37 : Meets Try.prog 37 S37 (fun _ => True) fn37 := meets_easy (sgl := sg37) (Φ := T37) mixed ((fun _ h => nomatch h)) Try.func37 b37 n37 k37 e37 (by kernel_rfl)

/-! ### 36 -/
def S36 : Sig := ⟨[(false, [(.int .i64)]), (false, [(.int .i64)]), (false, [(.int .i64)]), (false, [(.int .i64)])], [(true, [(.int .i64), (.int .i64)]), (true, [(.int .i64), (.int .i64)]), (false, [.bool]), (false, [.bool])]⟩
noncomputable def c36 : Code := Try.f36.body.getD .skip
theorem b36 : Try.f36.body = some c36 := body_some (by kernel_rfl)
theorem n36 : (Try.f36.name == "runtime.NumGoroutine") = false := by kernel_rfl
def sg36 : List (FuncId × Sig) := [(37, S37)]
def lt36 : List (Nat × LoopSig) := []
theorem k36 : (Code.loops c36).length = 0 := by kernel_rfl
def vt36 : VT :=
  (.ite (.bin .eq (.var 1) (.n 0))
   (.ret (.cons (.n 0) (.cons (.n 0) (.cons (.n 0) (.cons (.n 0) (.cons (.t true) (.cons (.ite (.bin .lt (.var 2) (.var 0)) (.bin .lt (.var 0) (.var 3)) (.t false)) .nil)))))))
   (.ite (.bin .lt (.var 1) (.n 0))
    (.need (.t true) (.pre 37 (.cons (.bin (.sub .i64) (.un (.neg .i64) (.var 3)) (.un (.neg .i64) (.var 0))) (.cons (.un (.neg .i64) (.var 1)) (.cons (.bin (.sub .i64) (.un (.neg .i64) (.var 2)) (.un (.neg .i64) (.var 0))) (.cons (.un (.neg .i64) (.var 1)) .nil)))))
    (.need (.app 37 (.cons (.bin (.sub .i64) (.un (.neg .i64) (.var 3)) (.un (.neg .i64) (.var 0))) (.cons (.un (.neg .i64) (.var 1)) (.cons (.bin (.sub .i64) (.un (.neg .i64) (.var 2)) (.un (.neg .i64) (.var 0))) (.cons (.un (.neg .i64) (.var 1)) .nil)))) 0) (.pre 37 (.cons (.bin (.sub .i64) (.un (.neg .i64) (.var 3)) (.un (.neg .i64) (.var 0))) (.cons (.un (.neg .i64) (.var 1)) (.cons (.n 1) (.cons (.n 1) .nil)))))
    (.need (.ite (.app 37 (.cons (.bin (.sub .i64) (.un (.neg .i64) (.var 3)) (.un (.neg .i64) (.var 0))) (.cons (.un (.neg .i64) (.var 1)) (.cons (.bin (.sub .i64) (.un (.neg .i64) (.var 2)) (.un (.neg .i64) (.var 0))) (.cons (.un (.neg .i64) (.var 1)) .nil)))) 0) (.app 37 (.cons (.bin (.sub .i64) (.un (.neg .i64) (.var 3)) (.un (.neg .i64) (.var 0))) (.cons (.un (.neg .i64) (.var 1)) (.cons (.n 1) (.cons (.n 1) .nil)))) 0) (.t false)) (.pre 37 (.cons (.n 0) (.cons (.n 1) (.cons (.bin (.sub .i64) (.un (.neg .i64) (.var 2)) (.un (.neg .i64) (.var 0))) (.cons (.un (.neg .i64) (.var 1)) .nil)))))
    (.ret (.cons (.bin (.sub .i64) (.un (.neg .i64) (.var 3)) (.un (.neg .i64) (.var 0))) (.cons (.un (.neg .i64) (.var 1)) (.cons (.bin (.sub .i64) (.un (.neg .i64) (.var 2)) (.un (.neg .i64) (.var 0))) (.cons (.un (.neg .i64) (.var 1)) (.cons (.t false) (.cons (.ite (.ite (.app 37 (.cons (.bin (.sub .i64) (.un (.neg .i64) (.var 3)) (.un (.neg .i64) (.var 0))) (.cons (.un (.neg .i64) (.var 1)) (.cons (.bin (.sub .i64) (.un (.neg .i64) (.var 2)) (.un (.neg .i64) (.var 0))) (.cons (.un (.neg .i64) (.var 1)) .nil)))) 0) (.app 37 (.cons (.bin (.sub .i64) (.un (.neg .i64) (.var 3)) (.un (.neg .i64) (.var 0))) (.cons (.un (.neg .i64) (.var 1)) (.cons (.n 1) (.cons (.n 1) .nil)))) 0) (.t false)) (.app 37 (.cons (.n 0) (.cons (.n 1) (.cons (.bin (.sub .i64) (.un (.neg .i64) (.var 2)) (.un (.neg .i64) (.var 0))) (.cons (.un (.neg .i64) (.var 1)) .nil)))) 0) (.t false)) .nil))))))))))
    (.need (.t true) (.pre 37 (.cons (.bin (.sub .i64) (.var 2) (.var 0)) (.cons (.var 1) (.cons (.bin (.sub .i64) (.var 3) (.var 0)) (.cons (.var 1) .nil)))))
    (.need (.app 37 (.cons (.bin (.sub .i64) (.var 2) (.var 0)) (.cons (.var 1) (.cons (.bin (.sub .i64) (.var 3) (.var 0)) (.cons (.var 1) .nil)))) 0) (.pre 37 (.cons (.bin (.sub .i64) (.var 2) (.var 0)) (.cons (.var 1) (.cons (.n 1) (.cons (.n 1) .nil)))))
    (.need (.ite (.app 37 (.cons (.bin (.sub .i64) (.var 2) (.var 0)) (.cons (.var 1) (.cons (.bin (.sub .i64) (.var 3) (.var 0)) (.cons (.var 1) .nil)))) 0) (.app 37 (.cons (.bin (.sub .i64) (.var 2) (.var 0)) (.cons (.var 1) (.cons (.n 1) (.cons (.n 1) .nil)))) 0) (.t false)) (.pre 37 (.cons (.n 0) (.cons (.n 1) (.cons (.bin (.sub .i64) (.var 3) (.var 0)) (.cons (.var 1) .nil)))))
    (.ret (.cons (.bin (.sub .i64) (.var 2) (.var 0)) (.cons (.var 1) (.cons (.bin (.sub .i64) (.var 3) (.var 0)) (.cons (.var 1) (.cons (.t false) (.cons (.ite (.ite (.app 37 (.cons (.bin (.sub .i64) (.var 2) (.var 0)) (.cons (.var 1) (.cons (.bin (.sub .i64) (.var 3) (.var 0)) (.cons (.var 1) .nil)))) 0) (.app 37 (.cons (.bin (.sub .i64) (.var 2) (.var 0)) (.cons (.var 1) (.cons (.n 1) (.cons (.n 1) .nil)))) 0) (.t false)) (.app 37 (.cons (.n 0) (.cons (.n 1) (.cons (.bin (.sub .i64) (.var 3) (.var 0)) (.cons (.var 1) .nil)))) 0) (.t false)) .nil))))))))))))
theorem e36 : fnVT Try.prog (sgOf sg36) (ltOf lt36) S36 Try.f36 c36 = vt36 := by kernel_rfl
def T36 : FuncId → List D → List D := tabOf [(37, fn37)]
def fn36 (ρ : List D) : List D := vt36.val T36 ρ
theorem m36 : Meets Try.prog 36 S36 (fun _ => True) fn36 := meets_easy (sgl := sg36) (Φ := T36) mixed (List.forall_mem_cons.2 ⟨m37, (fun _ h => nomatch h)⟩) Try.func36 b36 n36 k36 e36 (by kernel_rfl)

/-! ### 20 -/
def S20 : Sig := ⟨[(true, [(.int .i64), (.int .i64), (.int .i64), (.int .i64)]), (true, [(.int .i64), (.int .i64), (.int .i64), (.int .i64)])], [(false, [.bool])]⟩
noncomputable def c20 : Code := Try.f20.body.getD .skip
theorem b20 : Try.f20.body = some c20 := body_some (by kernel_rfl)
theorem n20 : (Try.f20.name == "runtime.NumGoroutine") = false := by kernel_rfl
def sg20 : List (FuncId × Sig) := [(9, S9), (31, S31), (36, S36), (37, S37)]
def lt20 : List (Nat × LoopSig) := []
theorem k20 : (Code.loops c20).length = 0 := by kernel_rfl
def vt20 : VT :=
  (.need (.t true) (.pre 9 (.cons (.var 0) (.cons (.var 1) (.cons (.var 2) (.cons (.var 3) .nil)))))
  (.need (.un .not (.un .not (.app 9 (.cons (.var 0) (.cons (.var 1) (.cons (.var 2) (.cons (.var 3) .nil)))) 0))) (.pre 31 (.cons (.var 4) (.cons (.var 5) .nil)))
  (.need (.un .not (.ite (.un .not (.app 9 (.cons (.var 0) (.cons (.var 1) (.cons (.var 2) (.cons (.var 3) .nil)))) 0)) (.t true) (.un .not (.app 31 (.cons (.var 4) (.cons (.var 5) .nil)) 0)))) (.pre 31 (.cons (.var 6) (.cons (.var 7) .nil)))
  (.ite (.ite (.ite (.un .not (.app 9 (.cons (.var 0) (.cons (.var 1) (.cons (.var 2) (.cons (.var 3) .nil)))) 0)) (.t true) (.un .not (.app 31 (.cons (.var 4) (.cons (.var 5) .nil)) 0))) (.t true) (.un .not (.app 31 (.cons (.var 6) (.cons (.var 7) .nil)) 0)))
   (.ret (.cons (.t false) .nil))
   (.need (.t true) (.pre 36 (.cons (.var 4) (.cons (.bin (.sub .i64) (.var 6) (.var 4)) (.cons (.var 0) (.cons (.var 2) .nil)))))
   (.need (.t true) (.pre 36 (.cons (.var 5) (.cons (.bin (.sub .i64) (.var 7) (.var 5)) (.cons (.var 1) (.cons (.var 3) .nil)))))
   (.ite (.ite (.un .not (.app 36 (.cons (.var 4) (.cons (.bin (.sub .i64) (.var 6) (.var 4)) (.cons (.var 0) (.cons (.var 2) .nil)))) 5)) (.t true) (.un .not (.app 36 (.cons (.var 5) (.cons (.bin (.sub .i64) (.var 7) (.var 5)) (.cons (.var 1) (.cons (.var 3) .nil)))) 5)))
    (.ret (.cons (.t false) .nil))
    (.need (.un .not (.ite (.app 36 (.cons (.var 4) (.cons (.bin (.sub .i64) (.var 6) (.var 4)) (.cons (.var 0) (.cons (.var 2) .nil)))) 4) (.t true) (.app 36 (.cons (.var 5) (.cons (.bin (.sub .i64) (.var 7) (.var 5)) (.cons (.var 1) (.cons (.var 3) .nil)))) 4))) (.pre 37 (.cons (.app 36 (.cons (.var 4) (.cons (.bin (.sub .i64) (.var 6) (.var 4)) (.cons (.var 0) (.cons (.var 2) .nil)))) 0) (.cons (.app 36 (.cons (.var 4) (.cons (.bin (.sub .i64) (.var 6) (.var 4)) (.cons (.var 0) (.cons (.var 2) .nil)))) 1) (.cons (.app 36 (.cons (.var 5) (.cons (.bin (.sub .i64) (.var 7) (.var 5)) (.cons (.var 1) (.cons (.var 3) .nil)))) 2) (.cons (.app 36 (.cons (.var 5) (.cons (.bin (.sub .i64) (.var 7) (.var 5)) (.cons (.var 1) (.cons (.var 3) .nil)))) 3) .nil)))))
    (.need (.ite (.un .not (.ite (.app 36 (.cons (.var 4) (.cons (.bin (.sub .i64) (.var 6) (.var 4)) (.cons (.var 0) (.cons (.var 2) .nil)))) 4) (.t true) (.app 36 (.cons (.var 5) (.cons (.bin (.sub .i64) (.var 7) (.var 5)) (.cons (.var 1) (.cons (.var 3) .nil)))) 4))) (.app 37 (.cons (.app 36 (.cons (.var 4) (.cons (.bin (.sub .i64) (.var 6) (.var 4)) (.cons (.var 0) (.cons (.var 2) .nil)))) 0) (.cons (.app 36 (.cons (.var 4) (.cons (.bin (.sub .i64) (.var 6) (.var 4)) (.cons (.var 0) (.cons (.var 2) .nil)))) 1) (.cons (.app 36 (.cons (.var 5) (.cons (.bin (.sub .i64) (.var 7) (.var 5)) (.cons (.var 1) (.cons (.var 3) .nil)))) 2) (.cons (.app 36 (.cons (.var 5) (.cons (.bin (.sub .i64) (.var 7) (.var 5)) (.cons (.var 1) (.cons (.var 3) .nil)))) 3) .nil)))) 0) (.t false)) (.pre 37 (.cons (.app 36 (.cons (.var 5) (.cons (.bin (.sub .i64) (.var 7) (.var 5)) (.cons (.var 1) (.cons (.var 3) .nil)))) 0) (.cons (.app 36 (.cons (.var 5) (.cons (.bin (.sub .i64) (.var 7) (.var 5)) (.cons (.var 1) (.cons (.var 3) .nil)))) 1) (.cons (.app 36 (.cons (.var 4) (.cons (.bin (.sub .i64) (.var 6) (.var 4)) (.cons (.var 0) (.cons (.var 2) .nil)))) 2) (.cons (.app 36 (.cons (.var 4) (.cons (.bin (.sub .i64) (.var 6) (.var 4)) (.cons (.var 0) (.cons (.var 2) .nil)))) 3) .nil)))))
    (.ret (.cons (.ite (.ite (.app 36 (.cons (.var 4) (.cons (.bin (.sub .i64) (.var 6) (.var 4)) (.cons (.var 0) (.cons (.var 2) .nil)))) 4) (.t true) (.app 36 (.cons (.var 5) (.cons (.bin (.sub .i64) (.var 7) (.var 5)) (.cons (.var 1) (.cons (.var 3) .nil)))) 4)) (.t true) (.ite (.app 37 (.cons (.app 36 (.cons (.var 4) (.cons (.bin (.sub .i64) (.var 6) (.var 4)) (.cons (.var 0) (.cons (.var 2) .nil)))) 0) (.cons (.app 36 (.cons (.var 4) (.cons (.bin (.sub .i64) (.var 6) (.var 4)) (.cons (.var 0) (.cons (.var 2) .nil)))) 1) (.cons (.app 36 (.cons (.var 5) (.cons (.bin (.sub .i64) (.var 7) (.var 5)) (.cons (.var 1) (.cons (.var 3) .nil)))) 2) (.cons (.app 36 (.cons (.var 5) (.cons (.bin (.sub .i64) (.var 7) (.var 5)) (.cons (.var 1) (.cons (.var 3) .nil)))) 3) .nil)))) 0) (.app 37 (.cons (.app 36 (.cons (.var 5) (.cons (.bin (.sub .i64) (.var 7) (.var 5)) (.cons (.var 1) (.cons (.var 3) .nil)))) 0) (.cons (.app 36 (.cons (.var 5) (.cons (.bin (.sub .i64) (.var 7) (.var 5)) (.cons (.var 1) (.cons (.var 3) .nil)))) 1) (.cons (.app 36 (.cons (.var 4) (.cons (.bin (.sub .i64) (.var 6) (.var 4)) (.cons (.var 0) (.cons (.var 2) .nil)))) 2) (.cons (.app 36 (.cons (.var 4) (.cons (.bin (.sub .i64) (.var 6) (.var 4)) (.cons (.var 0) (.cons (.var 2) .nil)))) 3) .nil)))) 0) (.t false))) .nil)))))))))))
theorem e20 : fnVT Try.prog (sgOf sg20) (ltOf lt20) S20 Try.f20 c20 = vt20 := by kernel_rfl
def T20 : FuncId → List D → List D := tabOf [(9, fn9), (31, fn31), (36, fn36), (37, fn37)]
def fn20 (ρ : List D) : List D := vt20.val T20 ρ
theorem m20 : Meets Try.prog 20 S20 (fun _ => True) fn20 := meets_easy (sgl := sg20) (Φ := T20) mixed (List.forall_mem_cons.2 ⟨m9, List.forall_mem_cons.2 ⟨m31, List.forall_mem_cons.2 ⟨m36, List.forall_mem_cons.2 ⟨m37, (fun _ h => nomatch h)⟩⟩⟩⟩) Try.func20 b20 n20 k20 e20 (by kernel_rfl)

/-! ### 15 -/
def S15 : Sig := ⟨[], [(false, [.bool])]⟩
noncomputable def c15 : Code := Try.f15.body.getD .skip
theorem b15 : Try.f15.body = some c15 := body_some (by kernel_rfl)
theorem n15 : (Try.f15.name == "runtime.NumGoroutine") = false := by kernel_rfl
def sg15 : List (FuncId × Sig) := [(13, S13), (11, S11), (18, S18), (20, S20)]
def lt15 : List (Nat × LoopSig) := []
theorem k15 : (Code.loops c15).length = 0 := by kernel_rfl
def vt15 : VT :=
  (.need (.t true) (.pre 13 (.cons (.n 10) (.cons (.n 10) (.cons (.n 5) (.cons (.n 4) .nil)))))
  (.need (.ite (.bin .eq (.app 13 (.cons (.n 10) (.cons (.n 10) (.cons (.n 5) (.cons (.n 4) .nil)))) 0) (.n 8)) (.ite (.bin .eq (.app 13 (.cons (.n 10) (.cons (.n 10) (.cons (.n 5) (.cons (.n 4) .nil)))) 1) (.n 8)) (.ite (.bin .eq (.app 13 (.cons (.n 10) (.cons (.n 10) (.cons (.n 5) (.cons (.n 4) .nil)))) 2) (.n 13)) (.bin .eq (.app 13 (.cons (.n 10) (.cons (.n 10) (.cons (.n 5) (.cons (.n 4) .nil)))) 3) (.n 12)) (.t false)) (.t false)) (.t false)) (.pre 11 (.cons (.app 13 (.cons (.n 10) (.cons (.n 10) (.cons (.n 5) (.cons (.n 4) .nil)))) 0) (.cons (.app 13 (.cons (.n 10) (.cons (.n 10) (.cons (.n 5) (.cons (.n 4) .nil)))) 1) (.cons (.app 13 (.cons (.n 10) (.cons (.n 10) (.cons (.n 5) (.cons (.n 4) .nil)))) 2) (.cons (.app 13 (.cons (.n 10) (.cons (.n 10) (.cons (.n 5) (.cons (.n 4) .nil)))) 3) .nil)))))
  (.need (.ite (.ite (.bin .eq (.app 13 (.cons (.n 10) (.cons (.n 10) (.cons (.n 5) (.cons (.n 4) .nil)))) 0) (.n 8)) (.ite (.bin .eq (.app 13 (.cons (.n 10) (.cons (.n 10) (.cons (.n 5) (.cons (.n 4) .nil)))) 1) (.n 8)) (.ite (.bin .eq (.app 13 (.cons (.n 10) (.cons (.n 10) (.cons (.n 5) (.cons (.n 4) .nil)))) 2) (.n 13)) (.bin .eq (.app 13 (.cons (.n 10) (.cons (.n 10) (.cons (.n 5) (.cons (.n 4) .nil)))) 3) (.n 12)) (.t false)) (.t false)) (.t false)) (.ite (.bin .eq (.app 11 (.cons (.app 13 (.cons (.n 10) (.cons (.n 10) (.cons (.n 5) (.cons (.n 4) .nil)))) 0) (.cons (.app 13 (.cons (.n 10) (.cons (.n 10) (.cons (.n 5) (.cons (.n 4) .nil)))) 1) (.cons (.app 13 (.cons (.n 10) (.cons (.n 10) (.cons (.n 5) (.cons (.n 4) .nil)))) 2) (.cons (.app 13 (.cons (.n 10) (.cons (.n 10) (.cons (.n 5) (.cons (.n 4) .nil)))) 3) .nil)))) 0) (.n 10)) (.bin .eq (.app 11 (.cons (.app 13 (.cons (.n 10) (.cons (.n 10) (.cons (.n 5) (.cons (.n 4) .nil)))) 0) (.cons (.app 13 (.cons (.n 10) (.cons (.n 10) (.cons (.n 5) (.cons (.n 4) .nil)))) 1) (.cons (.app 13 (.cons (.n 10) (.cons (.n 10) (.cons (.n 5) (.cons (.n 4) .nil)))) 2) (.cons (.app 13 (.cons (.n 10) (.cons (.n 10) (.cons (.n 5) (.cons (.n 4) .nil)))) 3) .nil)))) 1) (.n 10)) (.t false)) (.t false)) (.pre 18 (.cons (.app 13 (.cons (.n 10) (.cons (.n 10) (.cons (.n 5) (.cons (.n 4) .nil)))) 0) (.cons (.app 13 (.cons (.n 10) (.cons (.n 10) (.cons (.n 5) (.cons (.n 4) .nil)))) 1) (.cons (.app 13 (.cons (.n 10) (.cons (.n 10) (.cons (.n 5) (.cons (.n 4) .nil)))) 2) (.cons (.app 13 (.cons (.n 10) (.cons (.n 10) (.cons (.n 5) (.cons (.n 4) .nil)))) 3) (.cons (.app 13 (.cons (.n 10) (.cons (.n 10) (.cons (.n 5) (.cons (.n 4) .nil)))) 0) (.cons (.app 13 (.cons (.n 10) (.cons (.n 10) (.cons (.n 5) (.cons (.n 4) .nil)))) 1) (.cons (.app 13 (.cons (.n 10) (.cons (.n 10) (.cons (.n 5) (.cons (.n 4) .nil)))) 2) (.cons (.app 13 (.cons (.n 10) (.cons (.n 10) (.cons (.n 5) (.cons (.n 4) .nil)))) 3) .nil)))))))))
  (.need (.ite (.ite (.ite (.bin .eq (.app 13 (.cons (.n 10) (.cons (.n 10) (.cons (.n 5) (.cons (.n 4) .nil)))) 0) (.n 8)) (.ite (.bin .eq (.app 13 (.cons (.n 10) (.cons (.n 10) (.cons (.n 5) (.cons (.n 4) .nil)))) 1) (.n 8)) (.ite (.bin .eq (.app 13 (.cons (.n 10) (.cons (.n 10) (.cons (.n 5) (.cons (.n 4) .nil)))) 2) (.n 13)) (.bin .eq (.app 13 (.cons (.n 10) (.cons (.n 10) (.cons (.n 5) (.cons (.n 4) .nil)))) 3) (.n 12)) (.t false)) (.t false)) (.t false)) (.ite (.bin .eq (.app 11 (.cons (.app 13 (.cons (.n 10) (.cons (.n 10) (.cons (.n 5) (.cons (.n 4) .nil)))) 0) (.cons (.app 13 (.cons (.n 10) (.cons (.n 10) (.cons (.n 5) (.cons (.n 4) .nil)))) 1) (.cons (.app 13 (.cons (.n 10) (.cons (.n 10) (.cons (.n 5) (.cons (.n 4) .nil)))) 2) (.cons (.app 13 (.cons (.n 10) (.cons (.n 10) (.cons (.n 5) (.cons (.n 4) .nil)))) 3) .nil)))) 0) (.n 10)) (.bin .eq (.app 11 (.cons (.app 13 (.cons (.n 10) (.cons (.n 10) (.cons (.n 5) (.cons (.n 4) .nil)))) 0) (.cons (.app 13 (.cons (.n 10) (.cons (.n 10) (.cons (.n 5) (.cons (.n 4) .nil)))) 1) (.cons (.app 13 (.cons (.n 10) (.cons (.n 10) (.cons (.n 5) (.cons (.n 4) .nil)))) 2) (.cons (.app 13 (.cons (.n 10) (.cons (.n 10) (.cons (.n 5) (.cons (.n 4) .nil)))) 3) .nil)))) 1) (.n 10)) (.t false)) (.t false)) (.app 18 (.cons (.app 13 (.cons (.n 10) (.cons (.n 10) (.cons (.n 5) (.cons (.n 4) .nil)))) 0) (.cons (.app 13 (.cons (.n 10) (.cons (.n 10) (.cons (.n 5) (.cons (.n 4) .nil)))) 1) (.cons (.app 13 (.cons (.n 10) (.cons (.n 10) (.cons (.n 5) (.cons (.n 4) .nil)))) 2) (.cons (.app 13 (.cons (.n 10) (.cons (.n 10) (.cons (.n 5) (.cons (.n 4) .nil)))) 3) (.cons (.app 13 (.cons (.n 10) (.cons (.n 10) (.cons (.n 5) (.cons (.n 4) .nil)))) 0) (.cons (.app 13 (.cons (.n 10) (.cons (.n 10) (.cons (.n 5) (.cons (.n 4) .nil)))) 1) (.cons (.app 13 (.cons (.n 10) (.cons (.n 10) (.cons (.n 5) (.cons (.n 4) .nil)))) 2) (.cons (.app 13 (.cons (.n 10) (.cons (.n 10) (.cons (.n 5) (.cons (.n 4) .nil)))) 3) .nil)))))))) 0) (.t false)) (.pre 20 (.cons (.app 13 (.cons (.n 10) (.cons (.n 10) (.cons (.n 5) (.cons (.n 4) .nil)))) 0) (.cons (.app 13 (.cons (.n 10) (.cons (.n 10) (.cons (.n 5) (.cons (.n 4) .nil)))) 1) (.cons (.app 13 (.cons (.n 10) (.cons (.n 10) (.cons (.n 5) (.cons (.n 4) .nil)))) 2) (.cons (.app 13 (.cons (.n 10) (.cons (.n 10) (.cons (.n 5) (.cons (.n 4) .nil)))) 3) (.cons (.n 9) (.cons (.n 9) (.cons (.n 9) (.cons (.n 9) .nil)))))))))
  (.ret (.cons (.ite (.ite (.ite (.ite (.bin .eq (.app 13 (.cons (.n 10) (.cons (.n 10) (.cons (.n 5) (.cons (.n 4) .nil)))) 0) (.n 8)) (.ite (.bin .eq (.app 13 (.cons (.n 10) (.cons (.n 10) (.cons (.n 5) (.cons (.n 4) .nil)))) 1) (.n 8)) (.ite (.bin .eq (.app 13 (.cons (.n 10) (.cons (.n 10) (.cons (.n 5) (.cons (.n 4) .nil)))) 2) (.n 13)) (.bin .eq (.app 13 (.cons (.n 10) (.cons (.n 10) (.cons (.n 5) (.cons (.n 4) .nil)))) 3) (.n 12)) (.t false)) (.t false)) (.t false)) (.ite (.bin .eq (.app 11 (.cons (.app 13 (.cons (.n 10) (.cons (.n 10) (.cons (.n 5) (.cons (.n 4) .nil)))) 0) (.cons (.app 13 (.cons (.n 10) (.cons (.n 10) (.cons (.n 5) (.cons (.n 4) .nil)))) 1) (.cons (.app 13 (.cons (.n 10) (.cons (.n 10) (.cons (.n 5) (.cons (.n 4) .nil)))) 2) (.cons (.app 13 (.cons (.n 10) (.cons (.n 10) (.cons (.n 5) (.cons (.n 4) .nil)))) 3) .nil)))) 0) (.n 10)) (.bin .eq (.app 11 (.cons (.app 13 (.cons (.n 10) (.cons (.n 10) (.cons (.n 5) (.cons (.n 4) .nil)))) 0) (.cons (.app 13 (.cons (.n 10) (.cons (.n 10) (.cons (.n 5) (.cons (.n 4) .nil)))) 1) (.cons (.app 13 (.cons (.n 10) (.cons (.n 10) (.cons (.n 5) (.cons (.n 4) .nil)))) 2) (.cons (.app 13 (.cons (.n 10) (.cons (.n 10) (.cons (.n 5) (.cons (.n 4) .nil)))) 3) .nil)))) 1) (.n 10)) (.t false)) (.t false)) (.app 18 (.cons (.app 13 (.cons (.n 10) (.cons (.n 10) (.cons (.n 5) (.cons (.n 4) .nil)))) 0) (.cons (.app 13 (.cons (.n 10) (.cons (.n 10) (.cons (.n 5) (.cons (.n 4) .nil)))) 1) (.cons (.app 13 (.cons (.n 10) (.cons (.n 10) (.cons (.n 5) (.cons (.n 4) .nil)))) 2) (.cons (.app 13 (.cons (.n 10) (.cons (.n 10) (.cons (.n 5) (.cons (.n 4) .nil)))) 3) (.cons (.app 13 (.cons (.n 10) (.cons (.n 10) (.cons (.n 5) (.cons (.n 4) .nil)))) 0) (.cons (.app 13 (.cons (.n 10) (.cons (.n 10) (.cons (.n 5) (.cons (.n 4) .nil)))) 1) (.cons (.app 13 (.cons (.n 10) (.cons (.n 10) (.cons (.n 5) (.cons (.n 4) .nil)))) 2) (.cons (.app 13 (.cons (.n 10) (.cons (.n 10) (.cons (.n 5) (.cons (.n 4) .nil)))) 3) .nil)))))))) 0) (.t false)) (.app 20 (.cons (.app 13 (.cons (.n 10) (.cons (.n 10) (.cons (.n 5) (.cons (.n 4) .nil)))) 0) (.cons (.app 13 (.cons (.n 10) (.cons (.n 10) (.cons (.n 5) (.cons (.n 4) .nil)))) 1) (.cons (.app 13 (.cons (.n 10) (.cons (.n 10) (.cons (.n 5) (.cons (.n 4) .nil)))) 2) (.cons (.app 13 (.cons (.n 10) (.cons (.n 10) (.cons (.n 5) (.cons (.n 4) .nil)))) 3) (.cons (.n 9) (.cons (.n 9) (.cons (.n 9) (.cons (.n 9) .nil)))))))) 0) (.t false)) .nil))))))
theorem e15 : fnVT Try.prog (sgOf sg15) (ltOf lt15) S15 Try.f15 c15 = vt15 := by kernel_rfl
def T15 : FuncId → List D → List D := tabOf [(13, fn13), (11, fn11), (18, fn18), (20, fn20)]
def fn15 (ρ : List D) : List D := vt15.val T15 ρ
theorem m15 : Meets Try.prog 15 S15 (fun _ => True) fn15 := meets_easy (sgl := sg15) (Φ := T15) mixed (List.forall_mem_cons.2 ⟨m13, List.forall_mem_cons.2 ⟨m11, List.forall_mem_cons.2 ⟨m18, List.forall_mem_cons.2 ⟨m20, (fun _ h => nomatch h)⟩⟩⟩⟩) Try.func15 b15 n15 k15 e15 (by kernel_rfl)

/-! ### 3 -/
def S3 : Sig := ⟨[(true, [(.int .i64), (.int .i64), (.int .i64), (.int .i64)]), (true, [(.int .i64), (.int .i64)]), (true, [(.int .i64), (.int .i64)])], [(false, [.bool])]⟩
noncomputable def c3 : Code := Try.f3.body.getD .skip
theorem b3 : Try.f3.body = some c3 := body_some (by kernel_rfl)
theorem n3 : (Try.f3.name == "runtime.NumGoroutine") = false := by kernel_rfl
def sg3 : List (FuncId × Sig) := [(9, S9), (10, S10), (11, S11), (12, S12), (13, S13), (14, S14), (15, S15)]
def lt3 : List (Nat × LoopSig) := []
theorem k3 : (Code.loops c3).length = 0 := by kernel_rfl
def vt3 : VT :=
  (.need (.t true) (.pre 9 (.cons (.var 0) (.cons (.var 1) (.cons (.var 2) (.cons (.var 3) .nil)))))
  (.need (.t true) (.pre 10 (.cons (.var 0) (.cons (.var 1) (.cons (.var 2) (.cons (.var 3) .nil)))))
  (.need (.un .not (.un .not (.bin .beq (.app 9 (.cons (.var 0) (.cons (.var 1) (.cons (.var 2) (.cons (.var 3) .nil)))) 0) (.app 10 (.cons (.var 0) (.cons (.var 1) (.cons (.var 2) (.cons (.var 3) .nil)))) 0)))) (.pre 11 (.cons (.var 0) (.cons (.var 1) (.cons (.var 2) (.cons (.var 3) .nil)))))
  (.need (.un .not (.un .not (.bin .beq (.app 9 (.cons (.var 0) (.cons (.var 1) (.cons (.var 2) (.cons (.var 3) .nil)))) 0) (.app 10 (.cons (.var 0) (.cons (.var 1) (.cons (.var 2) (.cons (.var 3) .nil)))) 0)))) (.pre 12 (.cons (.var 0) (.cons (.var 1) (.cons (.var 2) (.cons (.var 3) .nil)))))
  (.ite (.ite (.un .not (.bin .beq (.app 9 (.cons (.var 0) (.cons (.var 1) (.cons (.var 2) (.cons (.var 3) .nil)))) 0) (.app 10 (.cons (.var 0) (.cons (.var 1) (.cons (.var 2) (.cons (.var 3) .nil)))) 0))) (.t true) (.un .not (.ite (.bin .eq (.app 11 (.cons (.var 0) (.cons (.var 1) (.cons (.var 2) (.cons (.var 3) .nil)))) 0) (.app 12 (.cons (.var 0) (.cons (.var 1) (.cons (.var 2) (.cons (.var 3) .nil)))) 0)) (.bin .eq (.app 11 (.cons (.var 0) (.cons (.var 1) (.cons (.var 2) (.cons (.var 3) .nil)))) 1) (.app 12 (.cons (.var 0) (.cons (.var 1) (.cons (.var 2) (.cons (.var 3) .nil)))) 1)) (.t false))))
   (.ret (.cons (.t false) .nil))
   (.need (.t true) (.pre 13 (.cons (.var 4) (.cons (.var 5) (.cons (.var 6) (.cons (.var 7) .nil)))))
   (.need (.t true) (.pre 14 (.cons (.var 4) (.cons (.var 5) (.cons (.var 6) (.cons (.var 7) .nil)))))
   (.need (.ite (.ite (.bin .eq (.app 13 (.cons (.var 4) (.cons (.var 5) (.cons (.var 6) (.cons (.var 7) .nil)))) 0) (.app 14 (.cons (.var 4) (.cons (.var 5) (.cons (.var 6) (.cons (.var 7) .nil)))) 0)) (.ite (.bin .eq (.app 13 (.cons (.var 4) (.cons (.var 5) (.cons (.var 6) (.cons (.var 7) .nil)))) 1) (.app 14 (.cons (.var 4) (.cons (.var 5) (.cons (.var 6) (.cons (.var 7) .nil)))) 1)) (.ite (.bin .eq (.app 13 (.cons (.var 4) (.cons (.var 5) (.cons (.var 6) (.cons (.var 7) .nil)))) 2) (.app 14 (.cons (.var 4) (.cons (.var 5) (.cons (.var 6) (.cons (.var 7) .nil)))) 2)) (.bin .eq (.app 13 (.cons (.var 4) (.cons (.var 5) (.cons (.var 6) (.cons (.var 7) .nil)))) 3) (.app 14 (.cons (.var 4) (.cons (.var 5) (.cons (.var 6) (.cons (.var 7) .nil)))) 3)) (.t false)) (.t false)) (.t false)) (.un .not (.ite (.bin .eq (.app 13 (.cons (.var 4) (.cons (.var 5) (.cons (.var 6) (.cons (.var 7) .nil)))) 0) (.n 0)) (.ite (.bin .eq (.app 13 (.cons (.var 4) (.cons (.var 5) (.cons (.var 6) (.cons (.var 7) .nil)))) 1) (.n 0)) (.ite (.bin .eq (.app 13 (.cons (.var 4) (.cons (.var 5) (.cons (.var 6) (.cons (.var 7) .nil)))) 2) (.n 0)) (.bin .eq (.app 13 (.cons (.var 4) (.cons (.var 5) (.cons (.var 6) (.cons (.var 7) .nil)))) 3) (.n 0)) (.t false)) (.t false)) (.t false))) (.t false)) (.pre 11 (.cons (.app 13 (.cons (.var 4) (.cons (.var 5) (.cons (.var 6) (.cons (.var 7) .nil)))) 0) (.cons (.app 13 (.cons (.var 4) (.cons (.var 5) (.cons (.var 6) (.cons (.var 7) .nil)))) 1) (.cons (.app 13 (.cons (.var 4) (.cons (.var 5) (.cons (.var 6) (.cons (.var 7) .nil)))) 2) (.cons (.app 13 (.cons (.var 4) (.cons (.var 5) (.cons (.var 6) (.cons (.var 7) .nil)))) 3) .nil)))))
   (.need (.ite (.ite (.bin .eq (.app 13 (.cons (.var 4) (.cons (.var 5) (.cons (.var 6) (.cons (.var 7) .nil)))) 0) (.app 14 (.cons (.var 4) (.cons (.var 5) (.cons (.var 6) (.cons (.var 7) .nil)))) 0)) (.ite (.bin .eq (.app 13 (.cons (.var 4) (.cons (.var 5) (.cons (.var 6) (.cons (.var 7) .nil)))) 1) (.app 14 (.cons (.var 4) (.cons (.var 5) (.cons (.var 6) (.cons (.var 7) .nil)))) 1)) (.ite (.bin .eq (.app 13 (.cons (.var 4) (.cons (.var 5) (.cons (.var 6) (.cons (.var 7) .nil)))) 2) (.app 14 (.cons (.var 4) (.cons (.var 5) (.cons (.var 6) (.cons (.var 7) .nil)))) 2)) (.bin .eq (.app 13 (.cons (.var 4) (.cons (.var 5) (.cons (.var 6) (.cons (.var 7) .nil)))) 3) (.app 14 (.cons (.var 4) (.cons (.var 5) (.cons (.var 6) (.cons (.var 7) .nil)))) 3)) (.t false)) (.t false)) (.t false)) (.ite (.ite (.bin .eq (.app 13 (.cons (.var 4) (.cons (.var 5) (.cons (.var 6) (.cons (.var 7) .nil)))) 0) (.n 0)) (.ite (.bin .eq (.app 13 (.cons (.var 4) (.cons (.var 5) (.cons (.var 6) (.cons (.var 7) .nil)))) 1) (.n 0)) (.ite (.bin .eq (.app 13 (.cons (.var 4) (.cons (.var 5) (.cons (.var 6) (.cons (.var 7) .nil)))) 2) (.n 0)) (.bin .eq (.app 13 (.cons (.var 4) (.cons (.var 5) (.cons (.var 6) (.cons (.var 7) .nil)))) 3) (.n 0)) (.t false)) (.t false)) (.t false)) (.t true) (.ite (.ite (.ite (.bin .eq (.app 11 (.cons (.app 13 (.cons (.var 4) (.cons (.var 5) (.cons (.var 6) (.cons (.var 7) .nil)))) 0) (.cons (.app 13 (.cons (.var 4) (.cons (.var 5) (.cons (.var 6) (.cons (.var 7) .nil)))) 1) (.cons (.app 13 (.cons (.var 4) (.cons (.var 5) (.cons (.var 6) (.cons (.var 7) .nil)))) 2) (.cons (.app 13 (.cons (.var 4) (.cons (.var 5) (.cons (.var 6) (.cons (.var 7) .nil)))) 3) .nil)))) 0) (.var 4)) (.bin .eq (.app 11 (.cons (.app 13 (.cons (.var 4) (.cons (.var 5) (.cons (.var 6) (.cons (.var 7) .nil)))) 0) (.cons (.app 13 (.cons (.var 4) (.cons (.var 5) (.cons (.var 6) (.cons (.var 7) .nil)))) 1) (.cons (.app 13 (.cons (.var 4) (.cons (.var 5) (.cons (.var 6) (.cons (.var 7) .nil)))) 2) (.cons (.app 13 (.cons (.var 4) (.cons (.var 5) (.cons (.var 6) (.cons (.var 7) .nil)))) 3) .nil)))) 1) (.var 5)) (.t false)) (.bin .eq (.bin (.sub .i64) (.app 13 (.cons (.var 4) (.cons (.var 5) (.cons (.var 6) (.cons (.var 7) .nil)))) 2) (.app 13 (.cons (.var 4) (.cons (.var 5) (.cons (.var 6) (.cons (.var 7) .nil)))) 0)) (.var 6)) (.t false)) (.bin .eq (.bin (.sub .i64) (.app 13 (.cons (.var 4) (.cons (.var 5) (.cons (.var 6) (.cons (.var 7) .nil)))) 3) (.app 13 (.cons (.var 4) (.cons (.var 5) (.cons (.var 6) (.cons (.var 7) .nil)))) 1)) (.var 7)) (.t false))) (.t false)) (.pre 15 .nil)
   (.ret (.cons (.ite (.ite (.ite (.bin .eq (.app 13 (.cons (.var 4) (.cons (.var 5) (.cons (.var 6) (.cons (.var 7) .nil)))) 0) (.app 14 (.cons (.var 4) (.cons (.var 5) (.cons (.var 6) (.cons (.var 7) .nil)))) 0)) (.ite (.bin .eq (.app 13 (.cons (.var 4) (.cons (.var 5) (.cons (.var 6) (.cons (.var 7) .nil)))) 1) (.app 14 (.cons (.var 4) (.cons (.var 5) (.cons (.var 6) (.cons (.var 7) .nil)))) 1)) (.ite (.bin .eq (.app 13 (.cons (.var 4) (.cons (.var 5) (.cons (.var 6) (.cons (.var 7) .nil)))) 2) (.app 14 (.cons (.var 4) (.cons (.var 5) (.cons (.var 6) (.cons (.var 7) .nil)))) 2)) (.bin .eq (.app 13 (.cons (.var 4) (.cons (.var 5) (.cons (.var 6) (.cons (.var 7) .nil)))) 3) (.app 14 (.cons (.var 4) (.cons (.var 5) (.cons (.var 6) (.cons (.var 7) .nil)))) 3)) (.t false)) (.t false)) (.t false)) (.ite (.ite (.bin .eq (.app 13 (.cons (.var 4) (.cons (.var 5) (.cons (.var 6) (.cons (.var 7) .nil)))) 0) (.n 0)) (.ite (.bin .eq (.app 13 (.cons (.var 4) (.cons (.var 5) (.cons (.var 6) (.cons (.var 7) .nil)))) 1) (.n 0)) (.ite (.bin .eq (.app 13 (.cons (.var 4) (.cons (.var 5) (.cons (.var 6) (.cons (.var 7) .nil)))) 2) (.n 0)) (.bin .eq (.app 13 (.cons (.var 4) (.cons (.var 5) (.cons (.var 6) (.cons (.var 7) .nil)))) 3) (.n 0)) (.t false)) (.t false)) (.t false)) (.t true) (.ite (.ite (.ite (.bin .eq (.app 11 (.cons (.app 13 (.cons (.var 4) (.cons (.var 5) (.cons (.var 6) (.cons (.var 7) .nil)))) 0) (.cons (.app 13 (.cons (.var 4) (.cons (.var 5) (.cons (.var 6) (.cons (.var 7) .nil)))) 1) (.cons (.app 13 (.cons (.var 4) (.cons (.var 5) (.cons (.var 6) (.cons (.var 7) .nil)))) 2) (.cons (.app 13 (.cons (.var 4) (.cons (.var 5) (.cons (.var 6) (.cons (.var 7) .nil)))) 3) .nil)))) 0) (.var 4)) (.bin .eq (.app 11 (.cons (.app 13 (.cons (.var 4) (.cons (.var 5) (.cons (.var 6) (.cons (.var 7) .nil)))) 0) (.cons (.app 13 (.cons (.var 4) (.cons (.var 5) (.cons (.var 6) (.cons (.var 7) .nil)))) 1) (.cons (.app 13 (.cons (.var 4) (.cons (.var 5) (.cons (.var 6) (.cons (.var 7) .nil)))) 2) (.cons (.app 13 (.cons (.var 4) (.cons (.var 5) (.cons (.var 6) (.cons (.var 7) .nil)))) 3) .nil)))) 1) (.var 5)) (.t false)) (.bin .eq (.bin (.sub .i64) (.app 13 (.cons (.var 4) (.cons (.var 5) (.cons (.var 6) (.cons (.var 7) .nil)))) 2) (.app 13 (.cons (.var 4) (.cons (.var 5) (.cons (.var 6) (.cons (.var 7) .nil)))) 0)) (.var 6)) (.t false)) (.bin .eq (.bin (.sub .i64) (.app 13 (.cons (.var 4) (.cons (.var 5) (.cons (.var 6) (.cons (.var 7) .nil)))) 3) (.app 13 (.cons (.var 4) (.cons (.var 5) (.cons (.var 6) (.cons (.var 7) .nil)))) 1)) (.var 7)) (.t false))) (.t false)) (.app 15 .nil 0) (.t false)) .nil)))))))))))
theorem e3 : fnVT Try.prog (sgOf sg3) (ltOf lt3) S3 Try.f3 c3 = vt3 := by kernel_rfl
def T3 : FuncId → List D → List D := tabOf [(9, fn9), (10, fn10), (11, fn11), (12, fn12), (13, fn13), (14, fn14), (15, fn15)]
def fn3 (ρ : List D) : List D := vt3.val T3 ρ
theorem m3 : Meets Try.prog 3 S3 (fun _ => True) fn3 := meets_easy (sgl := sg3) (Φ := T3) mixed (List.forall_mem_cons.2 ⟨m9, List.forall_mem_cons.2 ⟨m10, List.forall_mem_cons.2 ⟨m11, List.forall_mem_cons.2 ⟨m12, List.forall_mem_cons.2 ⟨m13, List.forall_mem_cons.2 ⟨m14, List.forall_mem_cons.2 ⟨m15, (fun _ h => nomatch h)⟩⟩⟩⟩⟩⟩⟩) Try.func3 b3 n3 k3 e3 (by kernel_rfl)

end Go.Proofs.Yteajmcpjcbjolaa.rv
