/-
  The functions of the program as they are run: printed by program.
-/
import Derived.Test.YteajmcpjcbjolaaRvUse
import Derived.Test.YteajmcpjcbjolaaChecked
namespace Go.Proofs.Yteajmcpjcbjolaa.rv
open Go.RV
set_option maxRecDepth 100000
theorem mixed : Try.prog.follows .mixedOrders = true := by kernel_rfl
/-! ### 31 -/
def S31 : Sig := ⟨[(true, [(.int .i64), (.int .i64)])], [(false, [.bool])]⟩
noncomputable def c31 : Code := Try.f31.body.getD .skip
theorem b31 : Try.f31.body = some c31 := body_some (by kernel_rfl)
theorem n31 : (Try.f31.name == "runtime.NumGoroutine") = false := by kernel_rfl
def sg31 : List (FuncId × Sig) := []
def lt31 : List (Nat × LoopSig) := []
theorem k31 : (Code.loops c31).length = 0 := by kernel_rfl
def vt31 : VT :=
  (.ret (.cons (.ite (.ite (.ite (.bin .le (.n (-268435456)) (.var 0)) (.bin .le (.var 0) (.n 268435456)) (.t false)) (.bin .le (.n (-268435456)) (.var 1)) (.t false)) (.bin .le (.var 1) (.n 268435456)) (.t false)) .nil))
theorem e31 : fnVT Try.prog (sgOf sg31) (ltOf lt31) S31 Try.f31 c31 = vt31 := by kernel_rfl
def T31 : FuncId → List D → List D := tabOf []
def fn31 (ρ : List D) : List D := vt31.val T31 ρ
theorem m31 : Meets Try.prog 31 S31 (fun _ => True) fn31 := meets_easy (sgl := sg31) (Φ := T31) mixed ((fun _ h => nomatch h)) Try.func31 b31 n31 k31 e31 (by kernel_rfl)

/-! ### 9 -/
def S9 : Sig := ⟨[(true, [(.int .i64), (.int .i64), (.int .i64), (.int .i64)])], [(false, [.bool])]⟩
noncomputable def c9 : Code := Try.f9.body.getD .skip
theorem b9 : Try.f9.body = some c9 := body_some (by kernel_rfl)
theorem n9 : (Try.f9.name == "runtime.NumGoroutine") = false := by kernel_rfl
def sg9 : List (FuncId × Sig) := [(31, S31)]
def lt9 : List (Nat × LoopSig) := []
theorem k9 : (Code.loops c9).length = 0 := by kernel_rfl
def vt9 : VT :=
  (.need (.t true) (.pre 31 (.cons (.var 0) (.cons (.var 1) .nil)))
  (.need (.app 31 (.cons (.var 0) (.cons (.var 1) .nil)) 0) (.pre 31 (.cons (.var 2) (.cons (.var 3) .nil)))
  (.ret (.cons (.ite (.ite (.ite (.app 31 (.cons (.var 0) (.cons (.var 1) .nil)) 0) (.app 31 (.cons (.var 2) (.cons (.var 3) .nil)) 0) (.t false)) (.bin .le (.var 0) (.var 2)) (.t false)) (.bin .le (.var 1) (.var 3)) (.t false)) .nil))))
theorem e9 : fnVT Try.prog (sgOf sg9) (ltOf lt9) S9 Try.f9 c9 = vt9 := by kernel_rfl
def T9 : FuncId → List D → List D := tabOf [(31, fn31)]
def fn9 (ρ : List D) : List D := vt9.val T9 ρ
theorem m9 : Meets Try.prog 9 S9 (fun _ => True) fn9 := meets_easy (sgl := sg9) (Φ := T9) mixed (List.forall_mem_cons.2 ⟨m31, (fun _ h => nomatch h)⟩) Try.func9 b9 n9 k9 e9 (by kernel_rfl)

/-! ### 21 -/
def S21 : Sig := ⟨[(true, [(.int .i64), (.int .i64)])], [(false, [.bool])]⟩
noncomputable def c21 : Code := Try.f21.body.getD .skip
theorem b21 : Try.f21.body = some c21 := body_some (by kernel_rfl)
theorem n21 : (Try.f21.name == "runtime.NumGoroutine") = false := by kernel_rfl
def sg21 : List (FuncId × Sig) := []
def lt21 : List (Nat × LoopSig) := []
theorem k21 : (Code.loops c21).length = 0 := by kernel_rfl
def vt21 : VT :=
  (.ret (.cons (.ite (.ite (.ite (.bin .le (.n (-268435456)) (.var 0)) (.bin .le (.var 0) (.n 268435456)) (.t false)) (.bin .le (.n (-268435456)) (.var 1)) (.t false)) (.bin .le (.var 1) (.n 268435456)) (.t false)) .nil))
theorem e21 : fnVT Try.prog (sgOf sg21) (ltOf lt21) S21 Try.f21 c21 = vt21 := by kernel_rfl
def T21 : FuncId → List D → List D := tabOf []
def fn21 (ρ : List D) : List D := vt21.val T21 ρ
theorem m21 : Meets Try.prog 21 S21 (fun _ => True) fn21 := meets_easy (sgl := sg21) (Φ := T21) mixed ((fun _ h => nomatch h)) Try.func21 b21 n21 k21 e21 (by kernel_rfl)

/-! ### 10 -/
def S10 : Sig := ⟨[(true, [(.int .i64), (.int .i64), (.int .i64), (.int .i64)])], [(false, [.bool])]⟩
noncomputable def c10 : Code := Try.f10.body.getD .skip
theorem b10 : Try.f10.body = some c10 := body_some (by kernel_rfl)
theorem n10 : (Try.f10.name == "runtime.NumGoroutine") = false := by kernel_rfl
def sg10 : List (FuncId × Sig) := [(21, S21)]
def lt10 : List (Nat × LoopSig) := []
theorem k10 : (Code.loops c10).length = 0 := by kernel_rfl
def vt10 : VT :=
  (.need (.t true) (.pre 21 (.cons (.var 0) (.cons (.var 1) .nil)))
  (.need (.app 21 (.cons (.var 0) (.cons (.var 1) .nil)) 0) (.pre 21 (.cons (.var 2) (.cons (.var 3) .nil)))
  (.ret (.cons (.ite (.ite (.ite (.app 21 (.cons (.var 0) (.cons (.var 1) .nil)) 0) (.app 21 (.cons (.var 2) (.cons (.var 3) .nil)) 0) (.t false)) (.bin .le (.var 0) (.var 2)) (.t false)) (.bin .le (.var 1) (.var 3)) (.t false)) .nil))))
theorem e10 : fnVT Try.prog (sgOf sg10) (ltOf lt10) S10 Try.f10 c10 = vt10 := by kernel_rfl
def T10 : FuncId → List D → List D := tabOf [(21, fn21)]
def fn10 (ρ : List D) : List D := vt10.val T10 ρ
theorem m10 : Meets Try.prog 10 S10 (fun _ => True) fn10 := meets_easy (sgl := sg10) (Φ := T10) mixed (List.forall_mem_cons.2 ⟨m21, (fun _ h => nomatch h)⟩) Try.func10 b10 n10 k10 e10 (by kernel_rfl)

/-! ### 11 -/
def S11 : Sig := ⟨[(true, [(.int .i64), (.int .i64), (.int .i64), (.int .i64)])], [(true, [(.int .i64), (.int .i64)])]⟩
noncomputable def c11 : Code := Try.f11.body.getD .skip
theorem b11 : Try.f11.body = some c11 := body_some (by kernel_rfl)
theorem n11 : (Try.f11.name == "runtime.NumGoroutine") = false := by kernel_rfl
def sg11 : List (FuncId × Sig) := [(9, S9)]
def lt11 : List (Nat × LoopSig) := []
theorem k11 : (Code.loops c11).length = 0 := by kernel_rfl
def vt11 : VT :=
  (.need (.t true) (.pre 9 (.cons (.var 0) (.cons (.var 1) (.cons (.var 2) (.cons (.var 3) .nil)))))
  (.ite (.un .not (.app 9 (.cons (.var 0) (.cons (.var 1) (.cons (.var 2) (.cons (.var 3) .nil)))) 0))
   (.ret (.cons (.n 0) (.cons (.n 0) .nil)))
   (.ret (.cons (.bin (.shr .i64) (.bin (.add .i64) (.var 0) (.var 2)) (.n 1)) (.cons (.bin (.shr .i64) (.bin (.add .i64) (.var 1) (.var 3)) (.n 1)) .nil)))))
theorem e11 : fnVT Try.prog (sgOf sg11) (ltOf lt11) S11 Try.f11 c11 = vt11 := by kernel_rfl
def T11 : FuncId → List D → List D := tabOf [(9, fn9)]
def fn11 (ρ : List D) : List D := vt11.val T11 ρ
theorem m11 : Meets Try.prog 11 S11 (fun _ => True) fn11 := meets_easy (sgl := sg11) (Φ := T11) mixed (List.forall_mem_cons.2 ⟨m9, (fun _ h => nomatch h)⟩) Try.func11 b11 n11 k11 e11 (by kernel_rfl)

/-! ### 32 -/
def S32 : Sig := ⟨[(false, [(.int .i64)])], [(false, [(.int .i64)])]⟩
noncomputable def c32 : Code := Try.f32.body.getD .skip
theorem b32 : Try.f32.body = some c32 := body_some (by kernel_rfl)
theorem n32 : (Try.f32.name == "runtime.NumGoroutine") = false := by kernel_rfl
def sg32 : List (FuncId × Sig) := []
def lt32 : List (Nat × LoopSig) := []
theorem k32 : (Code.loops c32).length = 0 := by kernel_rfl
def vt32 : VT :=
  (.ite (.ite (.bin .lt (.var 0) (.n 0)) (.un .not (.bin .eq (.bin (.rem .i64) (.var 0) (.n 2)) (.n 0))) (.t false))
   (.ret (.cons (.bin (.sub .i64) (.bin (.quo .i64) (.var 0) (.n 2)) (.n 1)) .nil))
   (.ret (.cons (.bin (.quo .i64) (.var 0) (.n 2)) .nil)))
theorem e32 : fnVT Try.prog (sgOf sg32) (ltOf lt32) S32 Try.f32 c32 = vt32 := by kernel_rfl
def T32 : FuncId → List D → List D := tabOf []
def fn32 (ρ : List D) : List D := vt32.val T32 ρ
theorem m32 : Meets Try.prog 32 S32 (fun _ => True) fn32 := meets_easy (sgl := sg32) (Φ := T32) mixed ((fun _ h => nomatch h)) Try.func32 b32 n32 k32 e32 (by kernel_rfl)

/-! ### 12 -/
def S12 : Sig := ⟨[(true, [(.int .i64), (.int .i64), (.int .i64), (.int .i64)])], [(true, [(.int .i64), (.int .i64)])]⟩
noncomputable def c12 : Code := Try.f12.body.getD .skip
theorem b12 : Try.f12.body = some c12 := body_some (by kernel_rfl)
theorem n12 : (Try.f12.name == "runtime.NumGoroutine") = false := by kernel_rfl
def sg12 : List (FuncId × Sig) := [(10, S10), (32, S32)]
def lt12 : List (Nat × LoopSig) := []
theorem k12 : (Code.loops c12).length = 0 := by kernel_rfl
def vt12 : VT :=
  (.need (.t true) (.pre 10 (.cons (.var 0) (.cons (.var 1) (.cons (.var 2) (.cons (.var 3) .nil)))))
  (.ite (.un .not (.app 10 (.cons (.var 0) (.cons (.var 1) (.cons (.var 2) (.cons (.var 3) .nil)))) 0))
   (.ret (.cons (.n 0) (.cons (.n 0) .nil)))
   (.need (.t true) (.pre 32 (.cons (.bin (.add .i64) (.var 0) (.var 2)) .nil))
   (.need (.t true) (.pre 32 (.cons (.bin (.add .i64) (.var 1) (.var 3)) .nil))
   (.ret (.cons (.app 32 (.cons (.bin (.add .i64) (.var 0) (.var 2)) .nil) 0) (.cons (.app 32 (.cons (.bin (.add .i64) (.var 1) (.var 3)) .nil) 0) .nil)))))))
theorem e12 : fnVT Try.prog (sgOf sg12) (ltOf lt12) S12 Try.f12 c12 = vt12 := by kernel_rfl
def T12 : FuncId → List D → List D := tabOf [(10, fn10), (32, fn32)]
def fn12 (ρ : List D) : List D := vt12.val T12 ρ
theorem m12 : Meets Try.prog 12 S12 (fun _ => True) fn12 := meets_easy (sgl := sg12) (Φ := T12) mixed (List.forall_mem_cons.2 ⟨m10, List.forall_mem_cons.2 ⟨m32, (fun _ h => nomatch h)⟩⟩) Try.func12 b12 n12 k12 e12 (by kernel_rfl)

/-! ### 33 -/
def S33 : Sig := ⟨[(true, [(.int .i64), (.int .i64), (.int .i64), (.int .i64)])], [(true, [(.int .i64), (.int .i64), (.int .i64), (.int .i64)])]⟩
noncomputable def c33 : Code := Try.f33.body.getD .skip
theorem b33 : Try.f33.body = some c33 := body_some (by kernel_rfl)
theorem n33 : (Try.f33.name == "runtime.NumGoroutine") = false := by kernel_rfl
def sg33 : List (FuncId × Sig) := [(9, S9)]
def lt33 : List (Nat × LoopSig) := []
theorem k33 : (Code.loops c33).length = 0 := by kernel_rfl
def vt33 : VT :=
  (.need (.t true) (.pre 9 (.cons (.var 0) (.cons (.var 1) (.cons (.var 2) (.cons (.var 3) .nil)))))
  (.ite (.un .not (.app 9 (.cons (.var 0) (.cons (.var 1) (.cons (.var 2) (.cons (.var 3) .nil)))) 0))
   (.ret (.cons (.n 0) (.cons (.n 0) (.cons (.n 0) (.cons (.n 0) .nil)))))
   (.ret (.cons (.var 0) (.cons (.var 1) (.cons (.var 2) (.cons (.var 3) .nil)))))))
theorem e33 : fnVT Try.prog (sgOf sg33) (ltOf lt33) S33 Try.f33 c33 = vt33 := by kernel_rfl
def T33 : FuncId → List D → List D := tabOf [(9, fn9)]
def fn33 (ρ : List D) : List D := vt33.val T33 ρ
theorem m33 : Meets Try.prog 33 S33 (fun _ => True) fn33 := meets_easy (sgl := sg33) (Φ := T33) mixed (List.forall_mem_cons.2 ⟨m9, (fun _ h => nomatch h)⟩) Try.func33 b33 n33 k33 e33 (by kernel_rfl)

/-! ### 13 -/
def S13 : Sig := ⟨[(true, [(.int .i64), (.int .i64)]), (false, [(.int .i64)]), (false, [(.int .i64)])], [(true, [(.int .i64), (.int .i64), (.int .i64), (.int .i64)])]⟩
noncomputable def c13 : Code := Try.f13.body.getD .skip
theorem b13 : Try.f13.body = some c13 := body_some (by kernel_rfl)
theorem n13 : (Try.f13.name == "runtime.NumGoroutine") = false := by kernel_rfl
def sg13 : List (FuncId × Sig) := [(31, S31), (33, S33)]
def lt13 : List (Nat × LoopSig) := []
theorem k13 : (Code.loops c13).length = 0 := by kernel_rfl
def vt13 : VT :=
  (.need (.t true) (.pre 31 (.cons (.var 0) (.cons (.var 1) .nil)))
  (.ite (.ite (.ite (.ite (.ite (.un .not (.app 31 (.cons (.var 0) (.cons (.var 1) .nil)) 0)) (.t true) (.bin .lt (.var 2) (.n 0))) (.t true) (.bin .lt (.n 1048576) (.var 2))) (.t true) (.bin .lt (.var 3) (.n 0))) (.t true) (.bin .lt (.n 1048576) (.var 3)))
   (.ret (.cons (.n 0) (.cons (.n 0) (.cons (.n 0) (.cons (.n 0) .nil)))))
   (.need (.t true) (.pre 33 (.cons (.bin (.sub .i64) (.var 0) (.bin (.quo .i64) (.var 2) (.n 2))) (.cons (.bin (.sub .i64) (.var 1) (.bin (.quo .i64) (.var 3) (.n 2))) (.cons (.bin (.add .i64) (.bin (.sub .i64) (.var 0) (.bin (.quo .i64) (.var 2) (.n 2))) (.var 2)) (.cons (.bin (.add .i64) (.bin (.sub .i64) (.var 1) (.bin (.quo .i64) (.var 3) (.n 2))) (.var 3)) .nil)))))
   (.ret (.cons (.app 33 (.cons (.bin (.sub .i64) (.var 0) (.bin (.quo .i64) (.var 2) (.n 2))) (.cons (.bin (.sub .i64) (.var 1) (.bin (.quo .i64) (.var 3) (.n 2))) (.cons (.bin (.add .i64) (.bin (.sub .i64) (.var 0) (.bin (.quo .i64) (.var 2) (.n 2))) (.var 2)) (.cons (.bin (.add .i64) (.bin (.sub .i64) (.var 1) (.bin (.quo .i64) (.var 3) (.n 2))) (.var 3)) .nil)))) 0) (.cons (.app 33 (.cons (.bin (.sub .i64) (.var 0) (.bin (.quo .i64) (.var 2) (.n 2))) (.cons (.bin (.sub .i64) (.var 1) (.bin (.quo .i64) (.var 3) (.n 2))) (.cons (.bin (.add .i64) (.bin (.sub .i64) (.var 0) (.bin (.quo .i64) (.var 2) (.n 2))) (.var 2)) (.cons (.bin (.add .i64) (.bin (.sub .i64) (.var 1) (.bin (.quo .i64) (.var 3) (.n 2))) (.var 3)) .nil)))) 1) (.cons (.app 33 (.cons (.bin (.sub .i64) (.var 0) (.bin (.quo .i64) (.var 2) (.n 2))) (.cons (.bin (.sub .i64) (.var 1) (.bin (.quo .i64) (.var 3) (.n 2))) (.cons (.bin (.add .i64) (.bin (.sub .i64) (.var 0) (.bin (.quo .i64) (.var 2) (.n 2))) (.var 2)) (.cons (.bin (.add .i64) (.bin (.sub .i64) (.var 1) (.bin (.quo .i64) (.var 3) (.n 2))) (.var 3)) .nil)))) 2) (.cons (.app 33 (.cons (.bin (.sub .i64) (.var 0) (.bin (.quo .i64) (.var 2) (.n 2))) (.cons (.bin (.sub .i64) (.var 1) (.bin (.quo .i64) (.var 3) (.n 2))) (.cons (.bin (.add .i64) (.bin (.sub .i64) (.var 0) (.bin (.quo .i64) (.var 2) (.n 2))) (.var 2)) (.cons (.bin (.add .i64) (.bin (.sub .i64) (.var 1) (.bin (.quo .i64) (.var 3) (.n 2))) (.var 3)) .nil)))) 3) .nil))))))))
theorem e13 : fnVT Try.prog (sgOf sg13) (ltOf lt13) S13 Try.f13 c13 = vt13 := by kernel_rfl
def T13 : FuncId → List D → List D := tabOf [(31, fn31), (33, fn33)]
def fn13 (ρ : List D) : List D := vt13.val T13 ρ
theorem m13 : Meets Try.prog 13 S13 (fun _ => True) fn13 := meets_easy (sgl := sg13) (Φ := T13) mixed (List.forall_mem_cons.2 ⟨m31, List.forall_mem_cons.2 ⟨m33, (fun _ h => nomatch h)⟩⟩) Try.func13 b13 n13 k13 e13 (by kernel_rfl)

/-! ### 14 -/
def S14 : Sig := ⟨[(true, [(.int .i64), (.int .i64)]), (false, [(.int .i64)]), (false, [(.int .i64)])], [(true, [(.int .i64), (.int .i64), (.int .i64), (.int .i64)])]⟩
noncomputable def c14 : Code := Try.f14.body.getD .skip
theorem b14 : Try.f14.body = some c14 := body_some (by kernel_rfl)
theorem n14 : (Try.f14.name == "runtime.NumGoroutine") = false := by kernel_rfl
def sg14 : List (FuncId × Sig) := [(21, S21), (10, S10)]
def lt14 : List (Nat × LoopSig) := []
theorem k14 : (Code.loops c14).length = 0 := by kernel_rfl
def vt14 : VT :=
  (.need (.t true) (.pre 21 (.cons (.var 0) (.cons (.var 1) .nil)))
  (.ite (.ite (.ite (.ite (.ite (.un .not (.app 21 (.cons (.var 0) (.cons (.var 1) .nil)) 0)) (.t true) (.bin .lt (.var 2) (.n 0))) (.t true) (.bin .lt (.n 1048576) (.var 2))) (.t true) (.bin .lt (.var 3) (.n 0))) (.t true) (.bin .lt (.n 1048576) (.var 3)))
   (.ret (.cons (.n 0) (.cons (.n 0) (.cons (.n 0) (.cons (.n 0) .nil)))))
   (.need (.t true) (.pre 10 (.cons (.bin (.sub .i64) (.var 0) (.bin (.quo .i64) (.var 2) (.n 2))) (.cons (.bin (.sub .i64) (.var 1) (.bin (.quo .i64) (.var 3) (.n 2))) (.cons (.bin (.add .i64) (.bin (.sub .i64) (.var 0) (.bin (.quo .i64) (.var 2) (.n 2))) (.var 2)) (.cons (.bin (.add .i64) (.bin (.sub .i64) (.var 1) (.bin (.quo .i64) (.var 3) (.n 2))) (.var 3)) .nil)))))
   (.ite (.un .not (.app 10 (.cons (.bin (.sub .i64) (.var 0) (.bin (.quo .i64) (.var 2) (.n 2))) (.cons (.bin (.sub .i64) (.var 1) (.bin (.quo .i64) (.var 3) (.n 2))) (.cons (.bin (.add .i64) (.bin (.sub .i64) (.var 0) (.bin (.quo .i64) (.var 2) (.n 2))) (.var 2)) (.cons (.bin (.add .i64) (.bin (.sub .i64) (.var 1) (.bin (.quo .i64) (.var 3) (.n 2))) (.var 3)) .nil)))) 0))
    (.ret (.cons (.n 0) (.cons (.n 0) (.cons (.n 0) (.cons (.n 0) .nil)))))
    (.ret (.cons (.bin (.sub .i64) (.var 0) (.bin (.quo .i64) (.var 2) (.n 2))) (.cons (.bin (.sub .i64) (.var 1) (.bin (.quo .i64) (.var 3) (.n 2))) (.cons (.bin (.add .i64) (.bin (.sub .i64) (.var 0) (.bin (.quo .i64) (.var 2) (.n 2))) (.var 2)) (.cons (.bin (.add .i64) (.bin (.sub .i64) (.var 1) (.bin (.quo .i64) (.var 3) (.n 2))) (.var 3)) .nil)))))))))
theorem e14 : fnVT Try.prog (sgOf sg14) (ltOf lt14) S14 Try.f14 c14 = vt14 := by kernel_rfl
def T14 : FuncId → List D → List D := tabOf [(21, fn21), (10, fn10)]
def fn14 (ρ : List D) : List D := vt14.val T14 ρ
theorem m14 : Meets Try.prog 14 S14 (fun _ => True) fn14 := meets_easy (sgl := sg14) (Φ := T14) mixed (List.forall_mem_cons.2 ⟨m21, List.forall_mem_cons.2 ⟨m10, (fun _ h => nomatch h)⟩⟩) Try.func14 b14 n14 k14 e14 (by kernel_rfl)

/-! ### 18 -/
def S18 : Sig := ⟨[(true, [(.int .i64), (.int .i64), (.int .i64), (.int .i64)]), (true, [(.int .i64), (.int .i64), (.int .i64), (.int .i64)])], [(false, [.bool])]⟩
noncomputable def c18 : Code := Try.f18.body.getD .skip
theorem b18 : Try.f18.body = some c18 := body_some (by kernel_rfl)
theorem n18 : (Try.f18.name == "runtime.NumGoroutine") = false := by kernel_rfl
def sg18 : List (FuncId × Sig) := [(9, S9)]
def lt18 : List (Nat × LoopSig) := []
theorem k18 : (Code.loops c18).length = 0 := by kernel_rfl
def vt18 : VT :=
  (.need (.t true) (.pre 9 (.cons (.var 0) (.cons (.var 1) (.cons (.var 2) (.cons (.var 3) .nil)))))
  (.need (.app 9 (.cons (.var 0) (.cons (.var 1) (.cons (.var 2) (.cons (.var 3) .nil)))) 0) (.pre 9 (.cons (.var 4) (.cons (.var 5) (.cons (.var 6) (.cons (.var 7) .nil)))))
  (.ret (.cons (.ite (.ite (.ite (.app 9 (.cons (.var 0) (.cons (.var 1) (.cons (.var 2) (.cons (.var 3) .nil)))) 0) (.app 9 (.cons (.var 4) (.cons (.var 5) (.cons (.var 6) (.cons (.var 7) .nil)))) 0) (.t false)) (.bin .lt (.bin .max (.var 0) (.var 4)) (.bin .min (.var 2) (.var 6))) (.t false)) (.bin .lt (.bin .max (.var 1) (.var 5)) (.bin .min (.var 3) (.var 7))) (.t false)) .nil))))
theorem e18 : fnVT Try.prog (sgOf sg18) (ltOf lt18) S18 Try.f18 c18 = vt18 := by kernel_rfl
def T18 : FuncId → List D → List D := tabOf [(9, fn9)]
def fn18 (ρ : List D) : List D := vt18.val T18 ρ
theorem m18 : Meets Try.prog 18 S18 (fun _ => True) fn18 := meets_easy (sgl := sg18) (Φ := T18) mixed (List.forall_mem_cons.2 ⟨m9, (fun _ h => nomatch h)⟩) Try.func18 b18 n18 k18 e18 (by kernel_rfl)

/-! ### 37 -/
def S37 : Sig := ⟨[(true, [(.int .i64), (.int .i64)]), (true, [(.int .i64), (.int .i64)])], [(false, [.bool])]⟩
noncomputable def c37 : Code := Try.f37.body.getD .skip
theorem b37 : Try.f37.body = some c37 := body_some (by kernel_rfl)
theorem n37 : (Try.f37.name == "runtime.NumGoroutine") = false := by kernel_rfl
def sg37 : List (FuncId × Sig) := []
def lt37 : List (Nat × LoopSig) := []
theorem k37 : (Code.loops c37).length = 0 := by kernel_rfl
def vt37 : VT :=
  (.ret (.cons (.bin .lt (.bin (.mul .i64) (.var 0) (.var 3)) (.bin (.mul .i64) (.var 2) (.var 1))) .nil))
theorem e37 : fnVT Try.prog (sgOf sg37) (ltOf lt37) S37 Try.f37 c37 = vt37 := by kernel_rfl
def T37 : FuncId → List D → List D := tabOf []
def fn37 (ρ : List D) : List D := vt37.val T37 ρ
theorem m37 : Meets Try.prog 37 S37 (fun _ => True) fn37 := meets_easy (sgl := sg37) (Φ := T37) mixed ((fun _ h => nomatch h)) Try.func37 b37 n37 k37 e37 (by kernel_rfl)

/-! ### 36 -/
def S36 : Sig := ⟨[(false, [(.int .i64)]), (false, [(.int .i64)]), (false, [(.int .i64)]), (false, [(.int .i64)])], [(true, [(.int .i64), (.int .i64)]), (true, [(.int .i64), (.int .i64)]), (false, [.bool]), (false, [.bool])]⟩
noncomputable def c36 : Code := Try.f36.body.getD .skip
theorem b36 : Try.f36.body = some c36 := body_some (by kernel_rfl)
theorem n36 : (Try.f36.name == "runtime.NumGoroutine") = false := by kernel_rfl
def sg36 : List (FuncId × Sig) := [(37, S37)]
def lt36 : List (Nat × LoopSig) := []
theorem k36 : (Code.loops c36).length = 0 := by kernel_rfl
def vt36 : VT :=
  (.ite (.bin .eq (.var 1) (.n 0))
   (.ret (.cons (.n 0) (.cons (.n 0) (.cons (.n 0) (.cons (.n 0) (.cons (.t true) (.cons (.ite (.bin .lt (.var 2) (.var 0)) (.bin .lt (.var 0) (.var 3)) (.t false)) .nil)))))))
   (.ite (.bin .lt (.var 1) (.n 0))
    (.need (.t true) (.pre 37 (.cons (.bin (.sub .i64) (.un (.neg .i64) (.var 3)) (.un (.neg .i64) (.var 0))) (.cons (.un (.neg .i64) (.var 1)) (.cons (.bin (.sub .i64) (.un (.neg .i64) (.var 2)) (.un (.neg .i64) (.var 0))) (.cons (.un (.neg .i64) (.var 1)) .nil)))))
    (.need (.app 37 (.cons (.bin (.sub .i64) (.un (.neg .i64) (.var 3)) (.un (.neg .i64) (.var 0))) (.cons (.un (.neg .i64) (.var 1)) (.cons (.bin (.sub .i64) (.un (.neg .i64) (.var 2)) (.un (.neg .i64) (.var 0))) (.cons (.un (.neg .i64) (.var 1)) .nil)))) 0) (.pre 37 (.cons (.bin (.sub .i64) (.un (.neg .i64) (.var 3)) (.un (.neg .i64) (.var 0))) (.cons (.un (.neg .i64) (.var 1)) (.cons (.n 1) (.cons (.n 1) .nil)))))
    (.need (.ite (.app 37 (.cons (.bin (.sub .i64) (.un (.neg .i64) (.var 3)) (.un (.neg .i64) (.var 0))) (.cons (.un (.neg .i64) (.var 1)) (.cons (.bin (.sub .i64) (.un (.neg .i64) (.var 2)) (.un (.neg .i64) (.var 0))) (.cons (.un (.neg .i64) (.var 1)) .nil)))) 0) (.app 37 (.cons (.bin (.sub .i64) (.un (.neg .i64) (.var 3)) (.un (.neg .i64) (.var 0))) (.cons (.un (.neg .i64) (.var 1)) (.cons (.n 1) (.cons (.n 1) .nil)))) 0) (.t false)) (.pre 37 (.cons (.n 0) (.cons (.n 1) (.cons (.bin (.sub .i64) (.un (.neg .i64) (.var 2)) (.un (.neg .i64) (.var 0))) (.cons (.un (.neg .i64) (.var 1)) .nil)))))
    (.ret (.cons (.bin (.sub .i64) (.un (.neg .i64) (.var 3)) (.un (.neg .i64) (.var 0))) (.cons (.un (.neg .i64) (.var 1)) (.cons (.bin (.sub .i64) (.un (.neg .i64) (.var 2)) (.un (.neg .i64) (.var 0))) (.cons (.un (.neg .i64) (.var 1)) (.cons (.t false) (.cons (.ite (.ite (.app 37 (.cons (.bin (.sub .i64) (.un (.neg .i64) (.var 3)) (.un (.neg .i64) (.var 0))) (.cons (.un (.neg .i64) (.var 1)) (.cons (.bin (.sub .i64) (.un (.neg .i64) (.var 2)) (.un (.neg .i64) (.var 0))) (.cons (.un (.neg .i64) (.var 1)) .nil)))) 0) (.app 37 (.cons (.bin (.sub .i64) (.un (.neg .i64) (.var 3)) (.un (.neg .i64) (.var 0))) (.cons (.un (.neg .i64) (.var 1)) (.cons (.n 1) (.cons (.n 1) .nil)))) 0) (.t false)) (.app 37 (.cons (.n 0) (.cons (.n 1) (.cons (.bin (.sub .i64) (.un (.neg .i64) (.var 2)) (.un (.neg .i64) (.var 0))) (.cons (.un (.neg .i64) (.var 1)) .nil)))) 0) (.t false)) .nil))))))))))
    (.need (.t true) (.pre 37 (.cons (.bin (.sub .i64) (.var 2) (.var 0)) (.cons (.var 1) (.cons (.bin (.sub .i64) (.var 3) (.var 0)) (.cons (.var 1) .nil)))))
    (.need (.app 37 (.cons (.bin (.sub .i64) (.var 2) (.var 0)) (.cons (.var 1) (.cons (.bin (.sub .i64) (.var 3) (.var 0)) (.cons (.var 1) .nil)))) 0) (.pre 37 (.cons (.bin (.sub .i64) (.var 2) (.var 0)) (.cons (.var 1) (.cons (.n 1) (.cons (.n 1) .nil)))))
    (.need (.ite (.app 37 (.cons (.bin (.sub .i64) (.var 2) (.var 0)) (.cons (.var 1) (.cons (.bin (.sub .i64) (.var 3) (.var 0)) (.cons (.var 1) .nil)))) 0) (.app 37 (.cons (.bin (.sub .i64) (.var 2) (.var 0)) (.cons (.var 1) (.cons (.n 1) (.cons (.n 1) .nil)))) 0) (.t false)) (.pre 37 (.cons (.n 0) (.cons (.n 1) (.cons (.bin (.sub .i64) (.var 3) (.var 0)) (.cons (.var 1) .nil)))))
    (.ret (.cons (.bin (.sub .i64) (.var 2) (.var 0)) (.cons (.var 1) (.cons (.bin (.sub .i64) (.var 3) (.var 0)) (.cons (.var 1) (.cons (.t false) (.cons (.ite (.ite (.app 37 (.cons (.bin (.sub .i64) (.var 2) (.var 0)) (.cons (.var 1) (.cons (.bin (.sub .i64) (.var 3) (.var 0)) (.cons (.var 1) .nil)))) 0) (.app 37 (.cons (.bin (.sub .i64) (.var 2) (.var 0)) (.cons (.var 1) (.cons (.n 1) (.cons (.n 1) .nil)))) 0) (.t false)) (.app 37 (.cons (.n 0) (.cons (.n 1) (.cons (.bin (.sub .i64) (.var 3) (.var 0)) (.cons (.var 1) .nil)))) 0) (.t false)) .nil))))))))))))
theorem e36 : fnVT Try.prog (sgOf sg36) (ltOf lt36) S36 Try.f36 c36 = vt36 := by kernel_rfl
def T36 : FuncId → List D → List D := tabOf [(37, fn37)]
def fn36 (ρ : List D) : List D := vt36.val T36 ρ
theorem m36 : Meets Try.prog 36 S36 (fun _ => True) fn36 := meets_easy (sgl := sg36) (Φ := T36) mixed (List.forall_mem_cons.2 ⟨m37, (fun _ h => nomatch h)⟩) Try.func36 b36 n36 k36 e36 (by kernel_rfl)

/-! ### 20 -/
def S20 : Sig := ⟨[(true, [(.int .i64), (.int .i64), (.int .i64), (.int .i64)]), (true, [(.int .i64), (.int .i64), (.int .i64), (.int .i64)])], [(false, [.bool])]⟩
noncomputable def c20 : Code := Try.f20.body.getD .skip
theorem b20 : Try.f20.body = some c20 := body_some (by kernel_rfl)
theorem n20 : (Try.f20.name == "runtime.NumGoroutine") = false := by kernel_rfl
def sg20 : List (FuncId × Sig) := [(9, S9), (31, S31), (36, S36), (37, S37)]
def lt20 : List (Nat × LoopSig) := []
theorem k20 : (Code.loops c20).length = 0 := by kernel_rfl
def vt20 : VT :=
  (.need (.t true) (.pre 9 (.cons (.var 0) (.cons (.var 1) (.cons (.var 2) (.cons (.var 3) .nil)))))
  (.need (.un .not (.un .not (.app 9 (.cons (.var 0) (.cons (.var 1) (.cons (.var 2) (.cons (.var 3) .nil)))) 0))) (.pre 31 (.cons (.var 4) (.cons (.var 5) .nil)))
  (.need (.un .not (.ite (.un .not (.app 9 (.cons (.var 0) (.cons (.var 1) (.cons (.var 2) (.cons (.var 3) .nil)))) 0)) (.t true) (.un .not (.app 31 (.cons (.var 4) (.cons (.var 5) .nil)) 0)))) (.pre 31 (.cons (.var 6) (.cons (.var 7) .nil)))
  (.ite (.ite (.ite (.un .not (.app 9 (.cons (.var 0) (.cons (.var 1) (.cons (.var 2) (.cons (.var 3) .nil)))) 0)) (.t true) (.un .not (.app 31 (.cons (.var 4) (.cons (.var 5) .nil)) 0))) (.t true) (.un .not (.app 31 (.cons (.var 6) (.cons (.var 7) .nil)) 0)))
   (.ret (.cons (.t false) .nil))
   (.need (.t true) (.pre 36 (.cons (.var 4) (.cons (.bin (.sub .i64) (.var 6) (.var 4)) (.cons (.var 0) (.cons (.var 2) .nil)))))
   (.need (.t true) (.pre 36 (.cons (.var 5) (.cons (.bin (.sub .i64) (.var 7) (.var 5)) (.cons (.var 1) (.cons (.var 3) .nil)))))
   (.ite (.ite (.un .not (.app 36 (.cons (.var 4) (.cons (.bin (.sub .i64) (.var 6) (.var 4)) (.cons (.var 0) (.cons (.var 2) .nil)))) 5)) (.t true) (.un .not (.app 36 (.cons (.var 5) (.cons (.bin (.sub .i64) (.var 7) (.var 5)) (.cons (.var 1) (.cons (.var 3) .nil)))) 5)))
    (.ret (.cons (.t false) .nil))
    (.need (.un .not (.ite (.app 36 (.cons (.var 4) (.cons (.bin (.sub .i64) (.var 6) (.var 4)) (.cons (.var 0) (.cons (.var 2) .nil)))) 4) (.t true) (.app 36 (.cons (.var 5) (.cons (.bin (.sub .i64) (.var 7) (.var 5)) (.cons (.var 1) (.cons (.var 3) .nil)))) 4))) (.pre 37 (.cons (.app 36 (.cons (.var 4) (.cons (.bin (.sub .i64) (.var 6) (.var 4)) (.cons (.var 0) (.cons (.var 2) .nil)))) 0) (.cons (.app 36 (.cons (.var 4) (.cons (.bin (.sub .i64) (.var 6) (.var 4)) (.cons (.var 0) (.cons (.var 2) .nil)))) 1) (.cons (.app 36 (.cons (.var 5) (.cons (.bin (.sub .i64) (.var 7) (.var 5)) (.cons (.var 1) (.cons (.var 3) .nil)))) 2) (.cons (.app 36 (.cons (.var 5) (.cons (.bin (.sub .i64) (.var 7) (.var 5)) (.cons (.var 1) (.cons (.var 3) .nil)))) 3) .nil)))))
    (.need (.ite (.un .not (.ite (.app 36 (.cons (.var 4) (.cons (.bin (.sub .i64) (.var 6) (.var 4)) (.cons (.var 0) (.cons (.var 2) .nil)))) 4) (.t true) (.app 36 (.cons (.var 5) (.cons (.bin (.sub .i64) (.var 7) (.var 5)) (.cons (.var 1) (.cons (.var 3) .nil)))) 4))) (.app 37 (.cons (.app 36 (.cons (.var 4) (.cons (.bin (.sub .i64) (.var 6) (.var 4)) (.cons (.var 0) (.cons (.var 2) .nil)))) 0) (.cons (.app 36 (.cons (.var 4) (.cons (.bin (.sub .i64) (.var 6) (.var 4)) (.cons (.var 0) (.cons (.var 2) .nil)))) 1) (.cons (.app 36 (.cons (.var 5) (.cons (.bin (.sub .i64) (.var 7) (.var 5)) (.cons (.var 1) (.cons (.var 3) .nil)))) 2) (.cons (.app 36 (.cons (.var 5) (.cons (.bin (.sub .i64) (.var 7) (.var 5)) (.cons (.var 1) (.cons (.var 3) .nil)))) 3) .nil)))) 0) (.t false)) (.pre 37 (.cons (.app 36 (.cons (.var 5) (.cons (.bin (.sub .i64) (.var 7) (.var 5)) (.cons (.var 1) (.cons (.var 3) .nil)))) 0) (.cons (.app 36 (.cons (.var 5) (.cons (.bin (.sub .i64) (.var 7) (.var 5)) (.cons (.var 1) (.cons (.var 3) .nil)))) 1) (.cons (.app 36 (.cons (.var 4) (.cons (.bin (.sub .i64) (.var 6) (.var 4)) (.cons (.var 0) (.cons (.var 2) .nil)))) 2) (.cons (.app 36 (.cons (.var 4) (.cons (.bin (.sub .i64) (.var 6) (.var 4)) (.cons (.var 0) (.cons (.var 2) .nil)))) 3) .nil)))))
    (.ret (.cons (.ite (.ite (.app 36 (.cons (.var 4) (.cons (.bin (.sub .i64) (.var 6) (.var 4)) (.cons (.var 0) (.cons (.var 2) .nil)))) 4) (.t true) (.app 36 (.cons (.var 5) (.cons (.bin (.sub .i64) (.var 7) (.var 5)) (.cons (.var 1) (.cons (.var 3) .nil)))) 4)) (.t true) (.ite (.app 37 (.cons (.app 36 (.cons (.var 4) (.cons (.bin (.sub .i64) (.var 6) (.var 4)) (.cons (.var 0) (.cons (.var 2) .nil)))) 0) (.cons (.app 36 (.cons (.var 4) (.cons (.bin (.sub .i64) (.var 6) (.var 4)) (.cons (.var 0) (.cons (.var 2) .nil)))) 1) (.cons (.app 36 (.cons (.var 5) (.cons (.bin (.sub .i64) (.var 7) (.var 5)) (.cons (.var 1) (.cons (.var 3) .nil)))) 2) (.cons (.app 36 (.cons (.var 5) (.cons (.bin (.sub .i64) (.var 7) (.var 5)) (.cons (.var 1) (.cons (.var 3) .nil)))) 3) .nil)))) 0) (.app 37 (.cons (.app 36 (.cons (.var 5) (.cons (.bin (.sub .i64) (.var 7) (.var 5)) (.cons (.var 1) (.cons (.var 3) .nil)))) 0) (.cons (.app 36 (.cons (.var 5) (.cons (.bin (.sub .i64) (.var 7) (.var 5)) (.cons (.var 1) (.cons (.var 3) .nil)))) 1) (.cons (.app 36 (.cons (.var 4) (.cons (.bin (.sub .i64) (.var 6) (.var 4)) (.cons (.var 0) (.cons (.var 2) .nil)))) 2) (.cons (.app 36 (.cons (.var 4) (.cons (.bin (.sub .i64) (.var 6) (.var 4)) (.cons (.var 0) (.cons (.var 2) .nil)))) 3) .nil)))) 0) (.t false))) .nil)))))))))))
theorem e20 : fnVT Try.prog (sgOf sg20) (ltOf lt20) S20 Try.f20 c20 = vt20 := by kernel_rfl
def T20 : FuncId → List D → List D := tabOf [(9, fn9), (31, fn31), (36, fn36), (37, fn37)]
def fn20 (ρ : List D) : List D := vt20.val T20 ρ
theorem m20 : Meets Try.prog 20 S20 (fun _ => True) fn20 := meets_easy (sgl := sg20) (Φ := T20) mixed (List.forall_mem_cons.2 ⟨m9, List.forall_mem_cons.2 ⟨m31, List.forall_mem_cons.2 ⟨m36, List.forall_mem_cons.2 ⟨m37, (fun _ h => nomatch h)⟩⟩⟩⟩) Try.func20 b20 n20 k20 e20 (by kernel_rfl)

/-! ### 15 -/
def S15 : Sig := ⟨[], [(false, [.bool])]⟩
noncomputable def c15 : Code := Try.f15.body.getD .skip
theorem b15 : Try.f15.body = some c15 := body_some (by kernel_rfl)
theorem n15 : (Try.f15.name == "runtime.NumGoroutine") = false := by kernel_rfl
def sg15 : List (FuncId × Sig) := [(13, S13), (11, S11), (18, S18), (20, S20)]
def lt15 : List (Nat × LoopSig) := []
theorem k15 : (Code.loops c15).length = 0 := by kernel_rfl
def vt15 : VT :=
  (.need (.t true) (.pre 13 (.cons (.n 10) (.cons (.n 10) (.cons (.n 5) (.cons (.n 4) .nil)))))
  (.need (.ite (.bin .eq (.app 13 (.cons (.n 10) (.cons (.n 10) (.cons (.n 5) (.cons (.n 4) .nil)))) 0) (.n 8)) (.ite (.bin .eq (.app 13 (.cons (.n 10) (.cons (.n 10) (.cons (.n 5) (.cons (.n 4) .nil)))) 1) (.n 8)) (.ite (.bin .eq (.app 13 (.cons (.n 10) (.cons (.n 10) (.cons (.n 5) (.cons (.n 4) .nil)))) 2) (.n 13)) (.bin .eq (.app 13 (.cons (.n 10) (.cons (.n 10) (.cons (.n 5) (.cons (.n 4) .nil)))) 3) (.n 12)) (.t false)) (.t false)) (.t false)) (.pre 11 (.cons (.app 13 (.cons (.n 10) (.cons (.n 10) (.cons (.n 5) (.cons (.n 4) .nil)))) 0) (.cons (.app 13 (.cons (.n 10) (.cons (.n 10) (.cons (.n 5) (.cons (.n 4) .nil)))) 1) (.cons (.app 13 (.cons (.n 10) (.cons (.n 10) (.cons (.n 5) (.cons (.n 4) .nil)))) 2) (.cons (.app 13 (.cons (.n 10) (.cons (.n 10) (.cons (.n 5) (.cons (.n 4) .nil)))) 3) .nil)))))
  (.need (.ite (.ite (.bin .eq (.app 13 (.cons (.n 10) (.cons (.n 10) (.cons (.n 5) (.cons (.n 4) .nil)))) 0) (.n 8)) (.ite (.bin .eq (.app 13 (.cons (.n 10) (.cons (.n 10) (.cons (.n 5) (.cons (.n 4) .nil)))) 1) (.n 8)) (.ite (.bin .eq (.app 13 (.cons (.n 10) (.cons (.n 10) (.cons (.n 5) (.cons (.n 4) .nil)))) 2) (.n 13)) (.bin .eq (.app 13 (.cons (.n 10) (.cons (.n 10) (.cons (.n 5) (.cons (.n 4) .nil)))) 3) (.n 12)) (.t false)) (.t false)) (.t false)) (.ite (.bin .eq (.app 11 (.cons (.app 13 (.cons (.n 10) (.cons (.n 10) (.cons (.n 5) (.cons (.n 4) .nil)))) 0) (.cons (.app 13 (.cons (.n 10) (.cons (.n 10) (.cons (.n 5) (.cons (.n 4) .nil)))) 1) (.cons (.app 13 (.cons (.n 10) (.cons (.n 10) (.cons (.n 5) (.cons (.n 4) .nil)))) 2) (.cons (.app 13 (.cons (.n 10) (.cons (.n 10) (.cons (.n 5) (.cons (.n 4) .nil)))) 3) .nil)))) 0) (.n 10)) (.bin .eq (.app 11 (.cons (.app 13 (.cons (.n 10) (.cons (.n 10) (.cons (.n 5) (.cons (.n 4) .nil)))) 0) (.cons (.app 13 (.cons (.n 10) (.cons (.n 10) (.cons (.n 5) (.cons (.n 4) .nil)))) 1) (.cons (.app 13 (.cons (.n 10) (.cons (.n 10) (.cons (.n 5) (.cons (.n 4) .nil)))) 2) (.cons (.app 13 (.cons (.n 10) (.cons (.n 10) (.cons (.n 5) (.cons (.n 4) .nil)))) 3) .nil)))) 1) (.n 10)) (.t false)) (.t false)) (.pre 18 (.cons (.app 13 (.cons (.n 10) (.cons (.n 10) (.cons (.n 5) (.cons (.n 4) .nil)))) 0) (.cons (.app 13 (.cons (.n 10) (.cons (.n 10) (.cons (.n 5) (.cons (.n 4) .nil)))) 1) (.cons (.app 13 (.cons (.n 10) (.cons (.n 10) (.cons (.n 5) (.cons (.n 4) .nil)))) 2) (.cons (.app 13 (.cons (.n 10) (.cons (.n 10) (.cons (.n 5) (.cons (.n 4) .nil)))) 3) (.cons (.app 13 (.cons (.n 10) (.cons (.n 10) (.cons (.n 5) (.cons (.n 4) .nil)))) 0) (.cons (.app 13 (.cons (.n 10) (.cons (.n 10) (.cons (.n 5) (.cons (.n 4) .nil)))) 1) (.cons (.app 13 (.cons (.n 10) (.cons (.n 10) (.cons (.n 5) (.cons (.n 4) .nil)))) 2) (.cons (.app 13 (.cons (.n 10) (.cons (.n 10) (.cons (.n 5) (.cons (.n 4) .nil)))) 3) .nil)))))))))
  (.need (.ite (.ite (.ite (.bin .eq (.app 13 (.cons (.n 10) (.cons (.n 10) (.cons (.n 5) (.cons (.n 4) .nil)))) 0) (.n 8)) (.ite (.bin .eq (.app 13 (.cons (.n 10) (.cons (.n 10) (.cons (.n 5) (.cons (.n 4) .nil)))) 1) (.n 8)) (.ite (.bin .eq (.app 13 (.cons (.n 10) (.cons (.n 10) (.cons (.n 5) (.cons (.n 4) .nil)))) 2) (.n 13)) (.bin .eq (.app 13 (.cons (.n 10) (.cons (.n 10) (.cons (.n 5) (.cons (.n 4) .nil)))) 3) (.n 12)) (.t false)) (.t false)) (.t false)) (.ite (.bin .eq (.app 11 (.cons (.app 13 (.cons (.n 10) (.cons (.n 10) (.cons (.n 5) (.cons (.n 4) .nil)))) 0) (.cons (.app 13 (.cons (.n 10) (.cons (.n 10) (.cons (.n 5) (.cons (.n 4) .nil)))) 1) (.cons (.app 13 (.cons (.n 10) (.cons (.n 10) (.cons (.n 5) (.cons (.n 4) .nil)))) 2) (.cons (.app 13 (.cons (.n 10) (.cons (.n 10) (.cons (.n 5) (.cons (.n 4) .nil)))) 3) .nil)))) 0) (.n 10)) (.bin .eq (.app 11 (.cons (.app 13 (.cons (.n 10) (.cons (.n 10) (.cons (.n 5) (.cons (.n 4) .nil)))) 0) (.cons (.app 13 (.cons (.n 10) (.cons (.n 10) (.cons (.n 5) (.cons (.n 4) .nil)))) 1) (.cons (.app 13 (.cons (.n 10) (.cons (.n 10) (.cons (.n 5) (.cons (.n 4) .nil)))) 2) (.cons (.app 13 (.cons (.n 10) (.cons (.n 10) (.cons (.n 5) (.cons (.n 4) .nil)))) 3) .nil)))) 1) (.n 10)) (.t false)) (.t false)) (.app 18 (.cons (.app 13 (.cons (.n 10) (.cons (.n 10) (.cons (.n 5) (.cons (.n 4) .nil)))) 0) (.cons (.app 13 (.cons (.n 10) (.cons (.n 10) (.cons (.n 5) (.cons (.n 4) .nil)))) 1) (.cons (.app 13 (.cons (.n 10) (.cons (.n 10) (.cons (.n 5) (.cons (.n 4) .nil)))) 2) (.cons (.app 13 (.cons (.n 10) (.cons (.n 10) (.cons (.n 5) (.cons (.n 4) .nil)))) 3) (.cons (.app 13 (.cons (.n 10) (.cons (.n 10) (.cons (.n 5) (.cons (.n 4) .nil)))) 0) (.cons (.app 13 (.cons (.n 10) (.cons (.n 10) (.cons (.n 5) (.cons (.n 4) .nil)))) 1) (.cons (.app 13 (.cons (.n 10) (.cons (.n 10) (.cons (.n 5) (.cons (.n 4) .nil)))) 2) (.cons (.app 13 (.cons (.n 10) (.cons (.n 10) (.cons (.n 5) (.cons (.n 4) .nil)))) 3) .nil)))))))) 0) (.t false)) (.pre 20 (.cons (.app 13 (.cons (.n 10) (.cons (.n 10) (.cons (.n 5) (.cons (.n 4) .nil)))) 0) (.cons (.app 13 (.cons (.n 10) (.cons (.n 10) (.cons (.n 5) (.cons (.n 4) .nil)))) 1) (.cons (.app 13 (.cons (.n 10) (.cons (.n 10) (.cons (.n 5) (.cons (.n 4) .nil)))) 2) (.cons (.app 13 (.cons (.n 10) (.cons (.n 10) (.cons (.n 5) (.cons (.n 4) .nil)))) 3) (.cons (.n 9) (.cons (.n 9) (.cons (.n 9) (.cons (.n 9) .nil)))))))))
  (.ret (.cons (.ite (.ite (.ite (.ite (.bin .eq (.app 13 (.cons (.n 10) (.cons (.n 10) (.cons (.n 5) (.cons (.n 4) .nil)))) 0) (.n 8)) (.ite (.bin .eq (.app 13 (.cons (.n 10) (.cons (.n 10) (.cons (.n 5) (.cons (.n 4) .nil)))) 1) (.n 8)) (.ite (.bin .eq (.app 13 (.cons (.n 10) (.cons (.n 10) (.cons (.n 5) (.cons (.n 4) .nil)))) 2) (.n 13)) (.bin .eq (.app 13 (.cons (.n 10) (.cons (.n 10) (.cons (.n 5) (.cons (.n 4) .nil)))) 3) (.n 12)) (.t false)) (.t false)) (.t false)) (.ite (.bin .eq (.app 11 (.cons (.app 13 (.cons (.n 10) (.cons (.n 10) (.cons (.n 5) (.cons (.n 4) .nil)))) 0) (.cons (.app 13 (.cons (.n 10) (.cons (.n 10) (.cons (.n 5) (.cons (.n 4) .nil)))) 1) (.cons (.app 13 (.cons (.n 10) (.cons (.n 10) (.cons (.n 5) (.cons (.n 4) .nil)))) 2) (.cons (.app 13 (.cons (.n 10) (.cons (.n 10) (.cons (.n 5) (.cons (.n 4) .nil)))) 3) .nil)))) 0) (.n 10)) (.bin .eq (.app 11 (.cons (.app 13 (.cons (.n 10) (.cons (.n 10) (.cons (.n 5) (.cons (.n 4) .nil)))) 0) (.cons (.app 13 (.cons (.n 10) (.cons (.n 10) (.cons (.n 5) (.cons (.n 4) .nil)))) 1) (.cons (.app 13 (.cons (.n 10) (.cons (.n 10) (.cons (.n 5) (.cons (.n 4) .nil)))) 2) (.cons (.app 13 (.cons (.n 10) (.cons (.n 10) (.cons (.n 5) (.cons (.n 4) .nil)))) 3) .nil)))) 1) (.n 10)) (.t false)) (.t false)) (.app 18 (.cons (.app 13 (.cons (.n 10) (.cons (.n 10) (.cons (.n 5) (.cons (.n 4) .nil)))) 0) (.cons (.app 13 (.cons (.n 10) (.cons (.n 10) (.cons (.n 5) (.cons (.n 4) .nil)))) 1) (.cons (.app 13 (.cons (.n 10) (.cons (.n 10) (.cons (.n 5) (.cons (.n 4) .nil)))) 2) (.cons (.app 13 (.cons (.n 10) (.cons (.n 10) (.cons (.n 5) (.cons (.n 4) .nil)))) 3) (.cons (.app 13 (.cons (.n 10) (.cons (.n 10) (.cons (.n 5) (.cons (.n 4) .nil)))) 0) (.cons (.app 13 (.cons (.n 10) (.cons (.n 10) (.cons (.n 5) (.cons (.n 4) .nil)))) 1) (.cons (.app 13 (.cons (.n 10) (.cons (.n 10) (.cons (.n 5) (.cons (.n 4) .nil)))) 2) (.cons (.app 13 (.cons (.n 10) (.cons (.n 10) (.cons (.n 5) (.cons (.n 4) .nil)))) 3) .nil)))))))) 0) (.t false)) (.app 20 (.cons (.app 13 (.cons (.n 10) (.cons (.n 10) (.cons (.n 5) (.cons (.n 4) .nil)))) 0) (.cons (.app 13 (.cons (.n 10) (.cons (.n 10) (.cons (.n 5) (.cons (.n 4) .nil)))) 1) (.cons (.app 13 (.cons (.n 10) (.cons (.n 10) (.cons (.n 5) (.cons (.n 4) .nil)))) 2) (.cons (.app 13 (.cons (.n 10) (.cons (.n 10) (.cons (.n 5) (.cons (.n 4) .nil)))) 3) (.cons (.n 9) (.cons (.n 9) (.cons (.n 9) (.cons (.n 9) .nil)))))))) 0) (.t false)) .nil))))))
theorem e15 : fnVT Try.prog (sgOf sg15) (ltOf lt15) S15 Try.f15 c15 = vt15 := by kernel_rfl
def T15 : FuncId → List D → List D := tabOf [(13, fn13), (11, fn11), (18, fn18), (20, fn20)]
def fn15 (ρ : List D) : List D := vt15.val T15 ρ
theorem m15 : Meets Try.prog 15 S15 (fun _ => True) fn15 := meets_easy (sgl := sg15) (Φ := T15) mixed (List.forall_mem_cons.2 ⟨m13, List.forall_mem_cons.2 ⟨m11, List.forall_mem_cons.2 ⟨m18, List.forall_mem_cons.2 ⟨m20, (fun _ h => nomatch h)⟩⟩⟩⟩) Try.func15 b15 n15 k15 e15 (by kernel_rfl)

/-! ### 3 -/
def S3 : Sig := ⟨[(true, [(.int .i64), (.int .i64), (.int .i64), (.int .i64)]), (true, [(.int .i64), (.int .i64)]), (true, [(.int .i64), (.int .i64)])], [(false, [.bool])]⟩
noncomputable def c3 : Code := Try.f3.body.getD .skip
theorem b3 : Try.f3.body = some c3 := body_some (by kernel_rfl)
theorem n3 : (Try.f3.name == "runtime.NumGoroutine") = false := by kernel_rfl
def sg3 : List (FuncId × Sig) := [(9, S9), (10, S10), (11, S11), (12, S12), (13, S13), (14, S14), (15, S15)]
def lt3 : List (Nat × LoopSig) := []
theorem k3 : (Code.loops c3).length = 0 := by kernel_rfl
def vt3 : VT :=
  (.need (.t true) (.pre 9 (.cons (.var 0) (.cons (.var 1) (.cons (.var 2) (.cons (.var 3) .nil)))))
  (.need (.t true) (.pre 10 (.cons (.var 0) (.cons (.var 1) (.cons (.var 2) (.cons (.var 3) .nil)))))
  (.need (.un .not (.un .not (.bin .beq (.app 9 (.cons (.var 0) (.cons (.var 1) (.cons (.var 2) (.cons (.var 3) .nil)))) 0) (.app 10 (.cons (.var 0) (.cons (.var 1) (.cons (.var 2) (.cons (.var 3) .nil)))) 0)))) (.pre 11 (.cons (.var 0) (.cons (.var 1) (.cons (.var 2) (.cons (.var 3) .nil)))))
  (.need (.un .not (.un .not (.bin .beq (.app 9 (.cons (.var 0) (.cons (.var 1) (.cons (.var 2) (.cons (.var 3) .nil)))) 0) (.app 10 (.cons (.var 0) (.cons (.var 1) (.cons (.var 2) (.cons (.var 3) .nil)))) 0)))) (.pre 12 (.cons (.var 0) (.cons (.var 1) (.cons (.var 2) (.cons (.var 3) .nil)))))
  (.ite (.ite (.un .not (.bin .beq (.app 9 (.cons (.var 0) (.cons (.var 1) (.cons (.var 2) (.cons (.var 3) .nil)))) 0) (.app 10 (.cons (.var 0) (.cons (.var 1) (.cons (.var 2) (.cons (.var 3) .nil)))) 0))) (.t true) (.un .not (.ite (.bin .eq (.app 11 (.cons (.var 0) (.cons (.var 1) (.cons (.var 2) (.cons (.var 3) .nil)))) 0) (.app 12 (.cons (.var 0) (.cons (.var 1) (.cons (.var 2) (.cons (.var 3) .nil)))) 0)) (.bin .eq (.app 11 (.cons (.var 0) (.cons (.var 1) (.cons (.var 2) (.cons (.var 3) .nil)))) 1) (.app 12 (.cons (.var 0) (.cons (.var 1) (.cons (.var 2) (.cons (.var 3) .nil)))) 1)) (.t false))))
   (.ret (.cons (.t false) .nil))
   (.need (.t true) (.pre 13 (.cons (.var 4) (.cons (.var 5) (.cons (.var 6) (.cons (.var 7) .nil)))))
   (.need (.t true) (.pre 14 (.cons (.var 4) (.cons (.var 5) (.cons (.var 6) (.cons (.var 7) .nil)))))
   (.need (.ite (.ite (.bin .eq (.app 13 (.cons (.var 4) (.cons (.var 5) (.cons (.var 6) (.cons (.var 7) .nil)))) 0) (.app 14 (.cons (.var 4) (.cons (.var 5) (.cons (.var 6) (.cons (.var 7) .nil)))) 0)) (.ite (.bin .eq (.app 13 (.cons (.var 4) (.cons (.var 5) (.cons (.var 6) (.cons (.var 7) .nil)))) 1) (.app 14 (.cons (.var 4) (.cons (.var 5) (.cons (.var 6) (.cons (.var 7) .nil)))) 1)) (.ite (.bin .eq (.app 13 (.cons (.var 4) (.cons (.var 5) (.cons (.var 6) (.cons (.var 7) .nil)))) 2) (.app 14 (.cons (.var 4) (.cons (.var 5) (.cons (.var 6) (.cons (.var 7) .nil)))) 2)) (.bin .eq (.app 13 (.cons (.var 4) (.cons (.var 5) (.cons (.var 6) (.cons (.var 7) .nil)))) 3) (.app 14 (.cons (.var 4) (.cons (.var 5) (.cons (.var 6) (.cons (.var 7) .nil)))) 3)) (.t false)) (.t false)) (.t false)) (.un .not (.ite (.bin .eq (.app 13 (.cons (.var 4) (.cons (.var 5) (.cons (.var 6) (.cons (.var 7) .nil)))) 0) (.n 0)) (.ite (.bin .eq (.app 13 (.cons (.var 4) (.cons (.var 5) (.cons (.var 6) (.cons (.var 7) .nil)))) 1) (.n 0)) (.ite (.bin .eq (.app 13 (.cons (.var 4) (.cons (.var 5) (.cons (.var 6) (.cons (.var 7) .nil)))) 2) (.n 0)) (.bin .eq (.app 13 (.cons (.var 4) (.cons (.var 5) (.cons (.var 6) (.cons (.var 7) .nil)))) 3) (.n 0)) (.t false)) (.t false)) (.t false))) (.t false)) (.pre 11 (.cons (.app 13 (.cons (.var 4) (.cons (.var 5) (.cons (.var 6) (.cons (.var 7) .nil)))) 0) (.cons (.app 13 (.cons (.var 4) (.cons (.var 5) (.cons (.var 6) (.cons (.var 7) .nil)))) 1) (.cons (.app 13 (.cons (.var 4) (.cons (.var 5) (.cons (.var 6) (.cons (.var 7) .nil)))) 2) (.cons (.app 13 (.cons (.var 4) (.cons (.var 5) (.cons (.var 6) (.cons (.var 7) .nil)))) 3) .nil)))))
   (.need (.ite (.ite (.bin .eq (.app 13 (.cons (.var 4) (.cons (.var 5) (.cons (.var 6) (.cons (.var 7) .nil)))) 0) (.app 14 (.cons (.var 4) (.cons (.var 5) (.cons (.var 6) (.cons (.var 7) .nil)))) 0)) (.ite (.bin .eq (.app 13 (.cons (.var 4) (.cons (.var 5) (.cons (.var 6) (.cons (.var 7) .nil)))) 1) (.app 14 (.cons (.var 4) (.cons (.var 5) (.cons (.var 6) (.cons (.var 7) .nil)))) 1)) (.ite (.bin .eq (.app 13 (.cons (.var 4) (.cons (.var 5) (.cons (.var 6) (.cons (.var 7) .nil)))) 2) (.app 14 (.cons (.var 4) (.cons (.var 5) (.cons (.var 6) (.cons (.var 7) .nil)))) 2)) (.bin .eq (.app 13 (.cons (.var 4) (.cons (.var 5) (.cons (.var 6) (.cons (.var 7) .nil)))) 3) (.app 14 (.cons (.var 4) (.cons (.var 5) (.cons (.var 6) (.cons (.var 7) .nil)))) 3)) (.t false)) (.t false)) (.t false)) (.ite (.ite (.bin .eq (.app 13 (.cons (.var 4) (.cons (.var 5) (.cons (.var 6) (.cons (.var 7) .nil)))) 0) (.n 0)) (.ite (.bin .eq (.app 13 (.cons (.var 4) (.cons (.var 5) (.cons (.var 6) (.cons (.var 7) .nil)))) 1) (.n 0)) (.ite (.bin .eq (.app 13 (.cons (.var 4) (.cons (.var 5) (.cons (.var 6) (.cons (.var 7) .nil)))) 2) (.n 0)) (.bin .eq (.app 13 (.cons (.var 4) (.cons (.var 5) (.cons (.var 6) (.cons (.var 7) .nil)))) 3) (.n 0)) (.t false)) (.t false)) (.t false)) (.t true) (.ite (.ite (.ite (.bin .eq (.app 11 (.cons (.app 13 (.cons (.var 4) (.cons (.var 5) (.cons (.var 6) (.cons (.var 7) .nil)))) 0) (.cons (.app 13 (.cons (.var 4) (.cons (.var 5) (.cons (.var 6) (.cons (.var 7) .nil)))) 1) (.cons (.app 13 (.cons (.var 4) (.cons (.var 5) (.cons (.var 6) (.cons (.var 7) .nil)))) 2) (.cons (.app 13 (.cons (.var 4) (.cons (.var 5) (.cons (.var 6) (.cons (.var 7) .nil)))) 3) .nil)))) 0) (.var 4)) (.bin .eq (.app 11 (.cons (.app 13 (.cons (.var 4) (.cons (.var 5) (.cons (.var 6) (.cons (.var 7) .nil)))) 0) (.cons (.app 13 (.cons (.var 4) (.cons (.var 5) (.cons (.var 6) (.cons (.var 7) .nil)))) 1) (.cons (.app 13 (.cons (.var 4) (.cons (.var 5) (.cons (.var 6) (.cons (.var 7) .nil)))) 2) (.cons (.app 13 (.cons (.var 4) (.cons (.var 5) (.cons (.var 6) (.cons (.var 7) .nil)))) 3) .nil)))) 1) (.var 5)) (.t false)) (.bin .eq (.bin (.sub .i64) (.app 13 (.cons (.var 4) (.cons (.var 5) (.cons (.var 6) (.cons (.var 7) .nil)))) 2) (.app 13 (.cons (.var 4) (.cons (.var 5) (.cons (.var 6) (.cons (.var 7) .nil)))) 0)) (.var 6)) (.t false)) (.bin .eq (.bin (.sub .i64) (.app 13 (.cons (.var 4) (.cons (.var 5) (.cons (.var 6) (.cons (.var 7) .nil)))) 3) (.app 13 (.cons (.var 4) (.cons (.var 5) (.cons (.var 6) (.cons (.var 7) .nil)))) 1)) (.var 7)) (.t false))) (.t false)) (.pre 15 .nil)
   (.ret (.cons (.ite (.ite (.ite (.bin .eq (.app 13 (.cons (.var 4) (.cons (.var 5) (.cons (.var 6) (.cons (.var 7) .nil)))) 0) (.app 14 (.cons (.var 4) (.cons (.var 5) (.cons (.var 6) (.cons (.var 7) .nil)))) 0)) (.ite (.bin .eq (.app 13 (.cons (.var 4) (.cons (.var 5) (.cons (.var 6) (.cons (.var 7) .nil)))) 1) (.app 14 (.cons (.var 4) (.cons (.var 5) (.cons (.var 6) (.cons (.var 7) .nil)))) 1)) (.ite (.bin .eq (.app 13 (.cons (.var 4) (.cons (.var 5) (.cons (.var 6) (.cons (.var 7) .nil)))) 2) (.app 14 (.cons (.var 4) (.cons (.var 5) (.cons (.var 6) (.cons (.var 7) .nil)))) 2)) (.bin .eq (.app 13 (.cons (.var 4) (.cons (.var 5) (.cons (.var 6) (.cons (.var 7) .nil)))) 3) (.app 14 (.cons (.var 4) (.cons (.var 5) (.cons (.var 6) (.cons (.var 7) .nil)))) 3)) (.t false)) (.t false)) (.t false)) (.ite (.ite (.bin .eq (.app 13 (.cons (.var 4) (.cons (.var 5) (.cons (.var 6) (.cons (.var 7) .nil)))) 0) (.n 0)) (.ite (.bin .eq (.app 13 (.cons (.var 4) (.cons (.var 5) (.cons (.var 6) (.cons (.var 7) .nil)))) 1) (.n 0)) (.ite (.bin .eq (.app 13 (.cons (.var 4) (.cons (.var 5) (.cons (.var 6) (.cons (.var 7) .nil)))) 2) (.n 0)) (.bin .eq (.app 13 (.cons (.var 4) (.cons (.var 5) (.cons (.var 6) (.cons (.var 7) .nil)))) 3) (.n 0)) (.t false)) (.t false)) (.t false)) (.t true) (.ite (.ite (.ite (.bin .eq (.app 11 (.cons (.app 13 (.cons (.var 4) (.cons (.var 5) (.cons (.var 6) (.cons (.var 7) .nil)))) 0) (.cons (.app 13 (.cons (.var 4) (.cons (.var 5) (.cons (.var 6) (.cons (.var 7) .nil)))) 1) (.cons (.app 13 (.cons (.var 4) (.cons (.var 5) (.cons (.var 6) (.cons (.var 7) .nil)))) 2) (.cons (.app 13 (.cons (.var 4) (.cons (.var 5) (.cons (.var 6) (.cons (.var 7) .nil)))) 3) .nil)))) 0) (.var 4)) (.bin .eq (.app 11 (.cons (.app 13 (.cons (.var 4) (.cons (.var 5) (.cons (.var 6) (.cons (.var 7) .nil)))) 0) (.cons (.app 13 (.cons (.var 4) (.cons (.var 5) (.cons (.var 6) (.cons (.var 7) .nil)))) 1) (.cons (.app 13 (.cons (.var 4) (.cons (.var 5) (.cons (.var 6) (.cons (.var 7) .nil)))) 2) (.cons (.app 13 (.cons (.var 4) (.cons (.var 5) (.cons (.var 6) (.cons (.var 7) .nil)))) 3) .nil)))) 1) (.var 5)) (.t false)) (.bin .eq (.bin (.sub .i64) (.app 13 (.cons (.var 4) (.cons (.var 5) (.cons (.var 6) (.cons (.var 7) .nil)))) 2) (.app 13 (.cons (.var 4) (.cons (.var 5) (.cons (.var 6) (.cons (.var 7) .nil)))) 0)) (.var 6)) (.t false)) (.bin .eq (.bin (.sub .i64) (.app 13 (.cons (.var 4) (.cons (.var 5) (.cons (.var 6) (.cons (.var 7) .nil)))) 3) (.app 13 (.cons (.var 4) (.cons (.var 5) (.cons (.var 6) (.cons (.var 7) .nil)))) 1)) (.var 7)) (.t false))) (.t false)) (.app 15 .nil 0) (.t false)) .nil)))))))))))
theorem e3 : fnVT Try.prog (sgOf sg3) (ltOf lt3) S3 Try.f3 c3 = vt3 := by kernel_rfl
def T3 : FuncId → List D → List D := tabOf [(9, fn9), (10, fn10), (11, fn11), (12, fn12), (13, fn13), (14, fn14), (15, fn15)]
def fn3 (ρ : List D) : List D := vt3.val T3 ρ
theorem m3 : Meets Try.prog 3 S3 (fun _ => True) fn3 := meets_easy (sgl := sg3) (Φ := T3) mixed (List.forall_mem_cons.2 ⟨m9, List.forall_mem_cons.2 ⟨m10, List.forall_mem_cons.2 ⟨m11, List.forall_mem_cons.2 ⟨m12, List.forall_mem_cons.2 ⟨m13, List.forall_mem_cons.2 ⟨m14, List.forall_mem_cons.2 ⟨m15, (fun _ h => nomatch h)⟩⟩⟩⟩⟩⟩⟩) Try.func3 b3 n3 k3 e3 (by kernel_rfl)

/-! ### 16 -/
def S16 : Sig := ⟨[(true, [(.int .i64), (.int .i64), (.int .i64), (.int .i64)])], [(false, [.bool])]⟩
noncomputable def c16 : Code := Try.f16.body.getD .skip
theorem b16 : Try.f16.body = some c16 := body_some (by kernel_rfl)
theorem n16 : (Try.f16.name == "runtime.NumGoroutine") = false := by kernel_rfl
def sg16 : List (FuncId × Sig) := [(10, S10)]
def lt16 : List (Nat × LoopSig) := []
theorem k16 : (Code.loops c16).length = 0 := by kernel_rfl
def vt16 : VT :=
  (.need (.ite (.ite (.ite (.bin .le (.n (-12)) (.var 0)) (.bin .le (.var 2) (.n 12)) (.t false)) (.bin .le (.n (-12)) (.var 1)) (.t false)) (.bin .le (.var 3) (.n 12)) (.t false)) (.pre 10 (.cons (.var 0) (.cons (.var 1) (.cons (.var 2) (.cons (.var 3) .nil)))))
  (.ret (.cons (.ite (.ite (.ite (.ite (.bin .le (.n (-12)) (.var 0)) (.bin .le (.var 2) (.n 12)) (.t false)) (.bin .le (.n (-12)) (.var 1)) (.t false)) (.bin .le (.var 3) (.n 12)) (.t false)) (.app 10 (.cons (.var 0) (.cons (.var 1) (.cons (.var 2) (.cons (.var 3) .nil)))) 0) (.t false)) .nil)))
theorem e16 : fnVT Try.prog (sgOf sg16) (ltOf lt16) S16 Try.f16 c16 = vt16 := by kernel_rfl
def T16 : FuncId → List D → List D := tabOf [(10, fn10)]
def fn16 (ρ : List D) : List D := vt16.val T16 ρ
theorem m16 : Meets Try.prog 16 S16 (fun _ => True) fn16 := meets_easy (sgl := sg16) (Φ := T16) mixed (List.forall_mem_cons.2 ⟨m10, (fun _ h => nomatch h)⟩) Try.func16 b16 n16 k16 e16 (by kernel_rfl)

/-! ### 17 -/
def S17 : Sig := ⟨[(true, [(.int .i64), (.int .i64), (.int .i64), (.int .i64)]), (false, [(.int .i64)]), (false, [(.int .i64)])], [(false, [.bool])]⟩
noncomputable def c17 : Code := Try.f17.body.getD .skip
theorem b17 : Try.f17.body = some c17 := body_some (by kernel_rfl)
theorem n17 : (Try.f17.name == "runtime.NumGoroutine") = false := by kernel_rfl
def sg17 : List (FuncId × Sig) := []
def lt17 : List (Nat × LoopSig) := []
theorem k17 : (Code.loops c17).length = 0 := by kernel_rfl
def vt17 : VT :=
  (.ret (.cons (.ite (.ite (.ite (.bin .lt (.bin (.mul .i64) (.n 2) (.var 0)) (.var 4)) (.bin .lt (.var 4) (.bin (.mul .i64) (.n 2) (.var 2))) (.t false)) (.bin .lt (.bin (.mul .i64) (.n 2) (.var 1)) (.var 5)) (.t false)) (.bin .lt (.var 5) (.bin (.mul .i64) (.n 2) (.var 3))) (.t false)) .nil))
theorem e17 : fnVT Try.prog (sgOf sg17) (ltOf lt17) S17 Try.f17 c17 = vt17 := by kernel_rfl
def T17 : FuncId → List D → List D := tabOf []
def fn17 (ρ : List D) : List D := vt17.val T17 ρ
theorem m17 : Meets Try.prog 17 S17 (fun _ => True) fn17 := meets_easy (sgl := sg17) (Φ := T17) mixed ((fun _ h => nomatch h)) Try.func17 b17 n17 k17 e17 (by kernel_rfl)

/-! ### 4 -/
def S4 : Sig := ⟨[(true, [(.int .i64), (.int .i64), (.int .i64), (.int .i64)]), (true, [(.int .i64), (.int .i64), (.int .i64), (.int .i64)])], [(false, [.bool])]⟩
noncomputable def c4 : Code := Try.f4.body.getD .skip
theorem b4 : Try.f4.body = some c4 := body_some (by kernel_rfl)
theorem n4 : (Try.f4.name == "runtime.NumGoroutine") = false := by kernel_rfl
def sg4 : List (FuncId × Sig) := [(16, S16), (15, S15), (17, S17), (18, S18)]
def L4_0 : LoopSig := ⟨10401, [],
   ⟨[.any, .any, (.c (.ptr 0 0)), (.c (.ptr 1 0)), .any, (.c (.x .bool (.var 0))), (.c (.x (.int .i64) (.var 1))), .any, .any, .any, .any, .any, .any, .any, .any, .any, .any, .any, .any, .any, .any, .any, .any, .any, .any, .any, .any, .any, .any, .any, .any, .any, .any, .any, .any, .any, .any, .any, .any, .any, .any, .any, .any, .any, .any, .any],
    [some ⟨(.t true), (.box 23 [(.x (.int .i64) (.var 2)), (.x (.int .i64) (.var 3)), (.x (.int .i64) (.var 4)), (.x (.int .i64) (.var 5))] false)⟩, some ⟨(.t true), (.box 23 [(.x (.int .i64) (.var 6)), (.x (.int .i64) (.var 7)), (.x (.int .i64) (.var 8)), (.x (.int .i64) (.var 9))] false)⟩]⟩,
   10, [0, 1], [17, 18, 7, 21, 22, 25, 26, 27, 28, 29, 30, 31, 32, 33, 34, 35, 36, 37, 5, 23, 24, 19, 20, 6], [(.exit 0)]⟩
def L4_1 : LoopSig := ⟨10400, [],
   ⟨[.any, .any, (.c (.ptr 0 0)), (.c (.ptr 1 0)), .any, (.c (.x .bool (.var 0))), (.c (.x (.int .i64) (.var 1))), (.c (.x (.int .i64) (.var 2))), .any, .any, .any, .any, .any, .any, .any, .any, .any, .any, .any, .any, .any, .any, .any, .any, .any, .any, .any, .any, .any, .any, .any, .any, .any, .any, .any, .any, .any, .any, .any, .any, .any, .any, .any, .any, .any, .any],
    [some ⟨(.t true), (.box 23 [(.x (.int .i64) (.var 3)), (.x (.int .i64) (.var 4)), (.x (.int .i64) (.var 5)), (.x (.int .i64) (.var 6))] false)⟩, some ⟨(.t true), (.box 23 [(.x (.int .i64) (.var 7)), (.x (.int .i64) (.var 8)), (.x (.int .i64) (.var 9)), (.x (.int .i64) (.var 10))] false)⟩]⟩,
   11, [0, 2], [21, 22, 25, 26, 27, 28, 29, 30, 31, 32, 33, 34, 35, 36, 37, 5, 23, 24, 7], [(.exit 2)]⟩
def lt4 : List (Nat × LoopSig) := [(5, L4_0), (8, L4_1)]
theorem k4 : (Code.loops c4).length = 2 := by kernel_rfl
noncomputable def lb4_0 : Code := (Code.loops c4).getD 0 .skip
noncomputable def lb4_1 : Code := (Code.loops c4).getD 1 .skip
def rt4_0 : VT :=
  (.ite (.bin .le (.var 1) (.n 24))
   (.need (.t true) (.pre 10400 (.cons (.var 0) (.cons (.var 1) (.cons (.n (-24)) (.cons (.var 2) (.cons (.var 3) (.cons (.var 4) (.cons (.var 5) (.cons (.var 6) (.cons (.var 7) (.cons (.var 8) (.cons (.var 9) .nil))))))))))))
   (.ret (.cons (.n (-1)) (.cons (.app 10400 (.cons (.var 0) (.cons (.var 1) (.cons (.n (-24)) (.cons (.var 2) (.cons (.var 3) (.cons (.var 4) (.cons (.var 5) (.cons (.var 6) (.cons (.var 7) (.cons (.var 8) (.cons (.var 9) .nil))))))))))) 1) (.cons (.bin (.add .i64) (.var 1) (.n 1)) .nil)))))
   (.ret (.cons (.n 0) (.cons (.var 0) (.cons (.var 1) .nil)))))
theorem le4_0 : loopVT Try.prog (sgOf sg4) (ltOf lt4) L4_0 lb4_0 = rt4_0 := by kernel_rfl
theorem lf4_0 : (firstRegion lb4_0).bind (ltOf lt4) = some L4_0 := by kernel_rfl
theorem lk4_0 : (Code.loops lb4_0).length = 1 := by kernel_rfl
theorem li4_0_0 : (Code.loops lb4_0).getD 0 .skip = lb4_1 := by kernel_rfl
def rt4_1 : VT :=
  (.ite (.bin .le (.var 2) (.n 24))
   (.need (.un .not (.var 0)) (.pre 17 (.cons (.var 3) (.cons (.var 4) (.cons (.var 5) (.cons (.var 6) (.cons (.var 1) (.cons (.var 2) .nil)))))))
   (.need (.ite (.un .not (.var 0)) (.app 17 (.cons (.var 3) (.cons (.var 4) (.cons (.var 5) (.cons (.var 6) (.cons (.var 1) (.cons (.var 2) .nil)))))) 0) (.t false)) (.pre 17 (.cons (.var 7) (.cons (.var 8) (.cons (.var 9) (.cons (.var 10) (.cons (.var 1) (.cons (.var 2) .nil)))))))
   (.ret (.cons (.n (-1)) (.cons (.ite (.var 0) (.t true) (.ite (.app 17 (.cons (.var 3) (.cons (.var 4) (.cons (.var 5) (.cons (.var 6) (.cons (.var 1) (.cons (.var 2) .nil)))))) 0) (.app 17 (.cons (.var 7) (.cons (.var 8) (.cons (.var 9) (.cons (.var 10) (.cons (.var 1) (.cons (.var 2) .nil)))))) 0) (.t false))) (.cons (.bin (.add .i64) (.var 2) (.n 1)) .nil))))))
   (.ret (.cons (.n 0) (.cons (.var 0) (.cons (.var 2) .nil)))))
theorem le4_1 : loopVT Try.prog (sgOf sg4) (ltOf lt4) L4_1 lb4_1 = rt4_1 := by kernel_rfl
theorem lf4_1 : (firstRegion lb4_1).bind (ltOf lt4) = some L4_1 := by kernel_rfl
theorem lk4_1 : (Code.loops lb4_1).length = 0 := by kernel_rfl
def vt4 : VT :=
  (.need (.t true) (.pre 16 (.cons (.var 0) (.cons (.var 1) (.cons (.var 2) (.cons (.var 3) .nil)))))
  (.need (.un .not (.un .not (.app 16 (.cons (.var 0) (.cons (.var 1) (.cons (.var 2) (.cons (.var 3) .nil)))) 0))) (.pre 16 (.cons (.var 4) (.cons (.var 5) (.cons (.var 6) (.cons (.var 7) .nil)))))
  (.ite (.ite (.un .not (.app 16 (.cons (.var 0) (.cons (.var 1) (.cons (.var 2) (.cons (.var 3) .nil)))) 0)) (.t true) (.un .not (.app 16 (.cons (.var 4) (.cons (.var 5) (.cons (.var 6) (.cons (.var 7) .nil)))) 0)))
   (.need (.t true) (.pre 15 .nil)
   (.ret (.cons (.app 15 .nil 0) .nil)))
   (.need (.t true) (.pre 10401 (.cons (.t false) (.cons (.n (-24)) (.cons (.var 0) (.cons (.var 1) (.cons (.var 2) (.cons (.var 3) (.cons (.var 4) (.cons (.var 5) (.cons (.var 6) (.cons (.var 7) .nil)))))))))))
   (.need (.t true) (.pre 18 (.cons (.var 0) (.cons (.var 1) (.cons (.var 2) (.cons (.var 3) (.cons (.var 4) (.cons (.var 5) (.cons (.var 6) (.cons (.var 7) .nil)))))))))
   (.need (.bin .beq (.app 18 (.cons (.var 0) (.cons (.var 1) (.cons (.var 2) (.cons (.var 3) (.cons (.var 4) (.cons (.var 5) (.cons (.var 6) (.cons (.var 7) .nil)))))))) 0) (.app 10401 (.cons (.t false) (.cons (.n (-24)) (.cons (.var 0) (.cons (.var 1) (.cons (.var 2) (.cons (.var 3) (.cons (.var 4) (.cons (.var 5) (.cons (.var 6) (.cons (.var 7) .nil)))))))))) 1)) (.pre 15 .nil)
   (.ret (.cons (.ite (.bin .beq (.app 18 (.cons (.var 0) (.cons (.var 1) (.cons (.var 2) (.cons (.var 3) (.cons (.var 4) (.cons (.var 5) (.cons (.var 6) (.cons (.var 7) .nil)))))))) 0) (.app 10401 (.cons (.t false) (.cons (.n (-24)) (.cons (.var 0) (.cons (.var 1) (.cons (.var 2) (.cons (.var 3) (.cons (.var 4) (.cons (.var 5) (.cons (.var 6) (.cons (.var 7) .nil)))))))))) 1)) (.app 15 .nil 0) (.t false)) .nil))))))))
theorem e4 : fnVT Try.prog (sgOf sg4) (ltOf lt4) S4 Try.f4 c4 = vt4 := by kernel_rfl

/-! ### 34 -/
def S34 : Sig := ⟨[(false, [(.int .i64)]), (false, [(.int .i64)]), (false, [(.int .i64)]), (false, [(.int .i64)])], [(true, [(.int .i64), (.int .i64), (.int .i64), .bool])]⟩
noncomputable def c34 : Code := Try.f34.body.getD .skip
theorem b34 : Try.f34.body = some c34 := body_some (by kernel_rfl)
theorem n34 : (Try.f34.name == "runtime.NumGoroutine") = false := by kernel_rfl
def sg34 : List (FuncId × Sig) := [(34, S34)]
def lt34 : List (Nat × LoopSig) := []
theorem k34 : (Code.loops c34).length = 0 := by kernel_rfl
def vt34 : VT :=
  (.ite (.bin .lt (.var 1) (.n 0))
   (.need (.t true) (.pre 34 (.cons (.un (.neg .i64) (.var 0)) (.cons (.un (.neg .i64) (.var 1)) (.cons (.un (.neg .i64) (.var 3)) (.cons (.un (.neg .i64) (.var 2)) .nil)))))
   (.ret (.cons (.app 34 (.cons (.un (.neg .i64) (.var 0)) (.cons (.un (.neg .i64) (.var 1)) (.cons (.un (.neg .i64) (.var 3)) (.cons (.un (.neg .i64) (.var 2)) .nil)))) 0) (.cons (.app 34 (.cons (.un (.neg .i64) (.var 0)) (.cons (.un (.neg .i64) (.var 1)) (.cons (.un (.neg .i64) (.var 3)) (.cons (.un (.neg .i64) (.var 2)) .nil)))) 1) (.cons (.app 34 (.cons (.un (.neg .i64) (.var 0)) (.cons (.un (.neg .i64) (.var 1)) (.cons (.un (.neg .i64) (.var 3)) (.cons (.un (.neg .i64) (.var 2)) .nil)))) 2) (.cons (.app 34 (.cons (.un (.neg .i64) (.var 0)) (.cons (.un (.neg .i64) (.var 1)) (.cons (.un (.neg .i64) (.var 3)) (.cons (.un (.neg .i64) (.var 2)) .nil)))) 3) .nil))))))
   (.ret (.cons (.bin (.sub .i64) (.var 2) (.var 0)) (.cons (.bin (.sub .i64) (.var 3) (.var 0)) (.cons (.var 1) (.cons (.ite (.bin .lt (.n 0) (.var 1)) (.t true) (.ite (.bin .lt (.var 2) (.var 0)) (.bin .lt (.var 0) (.var 3)) (.t false))) .nil))))))
theorem e34 : fnVT Try.prog (sgOf sg34) (ltOf lt34) S34 Try.f34 c34 = vt34 := by kernel_rfl

/-! ### 35 -/
def S35 : Sig := ⟨[(true, [(.int .i64), (.int .i64), (.int .i64), .bool])], [(false, [.bool])]⟩
noncomputable def c35 : Code := Try.f35.body.getD .skip
theorem b35 : Try.f35.body = some c35 := body_some (by kernel_rfl)
theorem n35 : (Try.f35.name == "runtime.NumGoroutine") = false := by kernel_rfl
def sg35 : List (FuncId × Sig) := []
def lt35 : List (Nat × LoopSig) := []
theorem k35 : (Code.loops c35).length = 0 := by kernel_rfl
def vt35 : VT :=
  (.ret (.cons (.ite (.var 3) (.ite (.bin .eq (.var 2) (.n 0)) (.t true) (.ite (.ite (.bin .lt (.var 0) (.var 1)) (.bin .lt (.var 0) (.var 2)) (.t false)) (.bin .lt (.n 0) (.var 1)) (.t false))) (.t false)) .nil))
theorem e35 : fnVT Try.prog (sgOf sg35) (ltOf lt35) S35 Try.f35 c35 = vt35 := by kernel_rfl
def T35 : FuncId → List D → List D := tabOf []
def fn35 (ρ : List D) : List D := vt35.val T35 ρ
theorem m35 : Meets Try.prog 35 S35 (fun _ => True) fn35 := meets_easy (sgl := sg35) (Φ := T35) mixed ((fun _ h => nomatch h)) Try.func35 b35 n35 k35 e35 (by kernel_rfl)

/-! ### 19 -/
def S19 : Sig := ⟨[(true, [(.int .i64), (.int .i64), (.int .i64), (.int .i64)]), (true, [(.int .i64), (.int .i64), (.int .i64), (.int .i64)])], [(false, [.bool])]⟩
noncomputable def c19 : Code := Try.f19.body.getD .skip
theorem b19 : Try.f19.body = some c19 := body_some (by kernel_rfl)
theorem n19 : (Try.f19.name == "runtime.NumGoroutine") = false := by kernel_rfl
def sg19 : List (FuncId × Sig) := [(10, S10), (21, S21), (34, S34), (35, S35)]
def lt19 : List (Nat × LoopSig) := []
theorem k19 : (Code.loops c19).length = 0 := by kernel_rfl
def vt19 : VT :=
  (.need (.t true) (.pre 10 (.cons (.var 0) (.cons (.var 1) (.cons (.var 2) (.cons (.var 3) .nil)))))
  (.need (.un .not (.un .not (.app 10 (.cons (.var 0) (.cons (.var 1) (.cons (.var 2) (.cons (.var 3) .nil)))) 0))) (.pre 21 (.cons (.var 4) (.cons (.var 5) .nil)))
  (.need (.un .not (.ite (.un .not (.app 10 (.cons (.var 0) (.cons (.var 1) (.cons (.var 2) (.cons (.var 3) .nil)))) 0)) (.t true) (.un .not (.app 21 (.cons (.var 4) (.cons (.var 5) .nil)) 0)))) (.pre 21 (.cons (.var 6) (.cons (.var 7) .nil)))
  (.ite (.ite (.ite (.un .not (.app 10 (.cons (.var 0) (.cons (.var 1) (.cons (.var 2) (.cons (.var 3) .nil)))) 0)) (.t true) (.un .not (.app 21 (.cons (.var 4) (.cons (.var 5) .nil)) 0))) (.t true) (.un .not (.app 21 (.cons (.var 6) (.cons (.var 7) .nil)) 0)))
   (.ret (.cons (.t false) .nil))
   (.need (.t true) (.pre 34 (.cons (.var 4) (.cons (.bin (.sub .i64) (.var 6) (.var 4)) (.cons (.var 0) (.cons (.var 2) .nil)))))
   (.need (.t true) (.pre 34 (.cons (.var 5) (.cons (.bin (.sub .i64) (.var 7) (.var 5)) (.cons (.var 1) (.cons (.var 3) .nil)))))
   (.need (.t true) (.pre 35 (.cons (.app 34 (.cons (.var 4) (.cons (.bin (.sub .i64) (.var 6) (.var 4)) (.cons (.var 0) (.cons (.var 2) .nil)))) 0) (.cons (.app 34 (.cons (.var 4) (.cons (.bin (.sub .i64) (.var 6) (.var 4)) (.cons (.var 0) (.cons (.var 2) .nil)))) 1) (.cons (.app 34 (.cons (.var 4) (.cons (.bin (.sub .i64) (.var 6) (.var 4)) (.cons (.var 0) (.cons (.var 2) .nil)))) 2) (.cons (.app 34 (.cons (.var 4) (.cons (.bin (.sub .i64) (.var 6) (.var 4)) (.cons (.var 0) (.cons (.var 2) .nil)))) 3) .nil)))))
   (.need (.un .not (.un .not (.app 35 (.cons (.app 34 (.cons (.var 4) (.cons (.bin (.sub .i64) (.var 6) (.var 4)) (.cons (.var 0) (.cons (.var 2) .nil)))) 0) (.cons (.app 34 (.cons (.var 4) (.cons (.bin (.sub .i64) (.var 6) (.var 4)) (.cons (.var 0) (.cons (.var 2) .nil)))) 1) (.cons (.app 34 (.cons (.var 4) (.cons (.bin (.sub .i64) (.var 6) (.var 4)) (.cons (.var 0) (.cons (.var 2) .nil)))) 2) (.cons (.app 34 (.cons (.var 4) (.cons (.bin (.sub .i64) (.var 6) (.var 4)) (.cons (.var 0) (.cons (.var 2) .nil)))) 3) .nil)))) 0))) (.pre 35 (.cons (.app 34 (.cons (.var 5) (.cons (.bin (.sub .i64) (.var 7) (.var 5)) (.cons (.var 1) (.cons (.var 3) .nil)))) 0) (.cons (.app 34 (.cons (.var 5) (.cons (.bin (.sub .i64) (.var 7) (.var 5)) (.cons (.var 1) (.cons (.var 3) .nil)))) 1) (.cons (.app 34 (.cons (.var 5) (.cons (.bin (.sub .i64) (.var 7) (.var 5)) (.cons (.var 1) (.cons (.var 3) .nil)))) 2) (.cons (.app 34 (.cons (.var 5) (.cons (.bin (.sub .i64) (.var 7) (.var 5)) (.cons (.var 1) (.cons (.var 3) .nil)))) 3) .nil)))))
   (.ite (.ite (.un .not (.app 35 (.cons (.app 34 (.cons (.var 4) (.cons (.bin (.sub .i64) (.var 6) (.var 4)) (.cons (.var 0) (.cons (.var 2) .nil)))) 0) (.cons (.app 34 (.cons (.var 4) (.cons (.bin (.sub .i64) (.var 6) (.var 4)) (.cons (.var 0) (.cons (.var 2) .nil)))) 1) (.cons (.app 34 (.cons (.var 4) (.cons (.bin (.sub .i64) (.var 6) (.var 4)) (.cons (.var 0) (.cons (.var 2) .nil)))) 2) (.cons (.app 34 (.cons (.var 4) (.cons (.bin (.sub .i64) (.var 6) (.var 4)) (.cons (.var 0) (.cons (.var 2) .nil)))) 3) .nil)))) 0)) (.t true) (.un .not (.app 35 (.cons (.app 34 (.cons (.var 5) (.cons (.bin (.sub .i64) (.var 7) (.var 5)) (.cons (.var 1) (.cons (.var 3) .nil)))) 0) (.cons (.app 34 (.cons (.var 5) (.cons (.bin (.sub .i64) (.var 7) (.var 5)) (.cons (.var 1) (.cons (.var 3) .nil)))) 1) (.cons (.app 34 (.cons (.var 5) (.cons (.bin (.sub .i64) (.var 7) (.var 5)) (.cons (.var 1) (.cons (.var 3) .nil)))) 2) (.cons (.app 34 (.cons (.var 5) (.cons (.bin (.sub .i64) (.var 7) (.var 5)) (.cons (.var 1) (.cons (.var 3) .nil)))) 3) .nil)))) 0)))
    (.ret (.cons (.t false) .nil))
    (.ret (.cons (.ite (.ite (.bin .eq (.app 34 (.cons (.var 4) (.cons (.bin (.sub .i64) (.var 6) (.var 4)) (.cons (.var 0) (.cons (.var 2) .nil)))) 2) (.n 0)) (.t true) (.bin .eq (.app 34 (.cons (.var 5) (.cons (.bin (.sub .i64) (.var 7) (.var 5)) (.cons (.var 1) (.cons (.var 3) .nil)))) 2) (.n 0))) (.t true) (.ite (.bin .lt (.bin (.mul .i64) (.app 34 (.cons (.var 4) (.cons (.bin (.sub .i64) (.var 6) (.var 4)) (.cons (.var 0) (.cons (.var 2) .nil)))) 0) (.app 34 (.cons (.var 5) (.cons (.bin (.sub .i64) (.var 7) (.var 5)) (.cons (.var 1) (.cons (.var 3) .nil)))) 2)) (.bin (.mul .i64) (.app 34 (.cons (.var 5) (.cons (.bin (.sub .i64) (.var 7) (.var 5)) (.cons (.var 1) (.cons (.var 3) .nil)))) 1) (.app 34 (.cons (.var 4) (.cons (.bin (.sub .i64) (.var 6) (.var 4)) (.cons (.var 0) (.cons (.var 2) .nil)))) 2))) (.bin .lt (.bin (.mul .i64) (.app 34 (.cons (.var 5) (.cons (.bin (.sub .i64) (.var 7) (.var 5)) (.cons (.var 1) (.cons (.var 3) .nil)))) 0) (.app 34 (.cons (.var 4) (.cons (.bin (.sub .i64) (.var 6) (.var 4)) (.cons (.var 0) (.cons (.var 2) .nil)))) 2)) (.bin (.mul .i64) (.app 34 (.cons (.var 4) (.cons (.bin (.sub .i64) (.var 6) (.var 4)) (.cons (.var 0) (.cons (.var 2) .nil)))) 1) (.app 34 (.cons (.var 5) (.cons (.bin (.sub .i64) (.var 7) (.var 5)) (.cons (.var 1) (.cons (.var 3) .nil)))) 2))) (.t false))) .nil)))))))))))
theorem e19 : fnVT Try.prog (sgOf sg19) (ltOf lt19) S19 Try.f19 c19 = vt19 := by kernel_rfl

/-! ### 5 -/
def S5 : Sig := ⟨[(true, [(.int .i64), (.int .i64), (.int .i64), (.int .i64)]), (true, [(.int .i64), (.int .i64), (.int .i64), (.int .i64)])], [(false, [.bool])]⟩
noncomputable def c5 : Code := Try.f5.body.getD .skip
theorem b5 : Try.f5.body = some c5 := body_some (by kernel_rfl)
theorem n5 : (Try.f5.name == "runtime.NumGoroutine") = false := by kernel_rfl
def sg5 : List (FuncId × Sig) := [(19, S19), (20, S20), (15, S15)]
def lt5 : List (Nat × LoopSig) := []
theorem k5 : (Code.loops c5).length = 0 := by kernel_rfl
def vt5 : VT :=
  (.need (.t true) (.pre 19 (.cons (.var 0) (.cons (.var 1) (.cons (.var 2) (.cons (.var 3) (.cons (.var 4) (.cons (.var 5) (.cons (.var 6) (.cons (.var 7) .nil)))))))))
  (.need (.t true) (.pre 20 (.cons (.var 0) (.cons (.var 1) (.cons (.var 2) (.cons (.var 3) (.cons (.var 4) (.cons (.var 5) (.cons (.var 6) (.cons (.var 7) .nil)))))))))
  (.need (.bin .beq (.app 20 (.cons (.var 0) (.cons (.var 1) (.cons (.var 2) (.cons (.var 3) (.cons (.var 4) (.cons (.var 5) (.cons (.var 6) (.cons (.var 7) .nil)))))))) 0) (.app 19 (.cons (.var 0) (.cons (.var 1) (.cons (.var 2) (.cons (.var 3) (.cons (.var 4) (.cons (.var 5) (.cons (.var 6) (.cons (.var 7) .nil)))))))) 0)) (.pre 20 (.cons (.var 0) (.cons (.var 1) (.cons (.var 2) (.cons (.var 3) (.cons (.var 6) (.cons (.var 7) (.cons (.var 4) (.cons (.var 5) .nil)))))))))
  (.need (.ite (.bin .beq (.app 20 (.cons (.var 0) (.cons (.var 1) (.cons (.var 2) (.cons (.var 3) (.cons (.var 4) (.cons (.var 5) (.cons (.var 6) (.cons (.var 7) .nil)))))))) 0) (.app 19 (.cons (.var 0) (.cons (.var 1) (.cons (.var 2) (.cons (.var 3) (.cons (.var 4) (.cons (.var 5) (.cons (.var 6) (.cons (.var 7) .nil)))))))) 0)) (.bin .beq (.app 20 (.cons (.var 0) (.cons (.var 1) (.cons (.var 2) (.cons (.var 3) (.cons (.var 6) (.cons (.var 7) (.cons (.var 4) (.cons (.var 5) .nil)))))))) 0) (.app 19 (.cons (.var 0) (.cons (.var 1) (.cons (.var 2) (.cons (.var 3) (.cons (.var 4) (.cons (.var 5) (.cons (.var 6) (.cons (.var 7) .nil)))))))) 0)) (.t false)) (.pre 15 .nil)
  (.ret (.cons (.ite (.ite (.bin .beq (.app 20 (.cons (.var 0) (.cons (.var 1) (.cons (.var 2) (.cons (.var 3) (.cons (.var 4) (.cons (.var 5) (.cons (.var 6) (.cons (.var 7) .nil)))))))) 0) (.app 19 (.cons (.var 0) (.cons (.var 1) (.cons (.var 2) (.cons (.var 3) (.cons (.var 4) (.cons (.var 5) (.cons (.var 6) (.cons (.var 7) .nil)))))))) 0)) (.bin .beq (.app 20 (.cons (.var 0) (.cons (.var 1) (.cons (.var 2) (.cons (.var 3) (.cons (.var 6) (.cons (.var 7) (.cons (.var 4) (.cons (.var 5) .nil)))))))) 0) (.app 19 (.cons (.var 0) (.cons (.var 1) (.cons (.var 2) (.cons (.var 3) (.cons (.var 4) (.cons (.var 5) (.cons (.var 6) (.cons (.var 7) .nil)))))))) 0)) (.t false)) (.app 15 .nil 0) (.t false)) .nil))))))
theorem e5 : fnVT Try.prog (sgOf sg5) (ltOf lt5) S5 Try.f5 c5 = vt5 := by kernel_rfl

/-! ### 6 -/
def S6 : Sig := ⟨[(true, [(.int .i64), (.int .i64), (.int .i64), (.int .i64)]), (true, [(.int .i64), (.int .i64), (.int .i64), (.int .i64)])], [(false, [.bool])]⟩
noncomputable def c6 : Code := Try.f6.body.getD .skip
theorem b6 : Try.f6.body = some c6 := body_some (by kernel_rfl)
theorem n6 : (Try.f6.name == "runtime.NumGoroutine") = false := by kernel_rfl
def sg6 : List (FuncId × Sig) := [(10, S10), (21, S21), (20, S20), (15, S15)]
def lt6 : List (Nat × LoopSig) := []
theorem k6 : (Code.loops c6).length = 0 := by kernel_rfl
def vt6 : VT :=
  (.need (.t true) (.pre 10 (.cons (.var 0) (.cons (.var 1) (.cons (.var 2) (.cons (.var 3) .nil)))))
  (.need (.un .not (.un .not (.app 10 (.cons (.var 0) (.cons (.var 1) (.cons (.var 2) (.cons (.var 3) .nil)))) 0))) (.pre 21 (.cons (.var 4) (.cons (.var 5) .nil)))
  (.need (.un .not (.ite (.un .not (.app 10 (.cons (.var 0) (.cons (.var 1) (.cons (.var 2) (.cons (.var 3) .nil)))) 0)) (.t true) (.un .not (.app 21 (.cons (.var 4) (.cons (.var 5) .nil)) 0)))) (.pre 21 (.cons (.var 6) (.cons (.var 7) .nil)))
  (.ite (.ite (.ite (.un .not (.app 10 (.cons (.var 0) (.cons (.var 1) (.cons (.var 2) (.cons (.var 3) .nil)))) 0)) (.t true) (.un .not (.app 21 (.cons (.var 4) (.cons (.var 5) .nil)) 0))) (.t true) (.un .not (.app 21 (.cons (.var 6) (.cons (.var 7) .nil)) 0)))
   (.need (.t true) (.pre 20 (.cons (.var 0) (.cons (.var 1) (.cons (.var 2) (.cons (.var 3) (.cons (.var 4) (.cons (.var 5) (.cons (.var 6) (.cons (.var 7) .nil)))))))))
   (.need (.un .not (.app 20 (.cons (.var 0) (.cons (.var 1) (.cons (.var 2) (.cons (.var 3) (.cons (.var 4) (.cons (.var 5) (.cons (.var 6) (.cons (.var 7) .nil)))))))) 0)) (.pre 15 .nil)
   (.ret (.cons (.ite (.un .not (.app 20 (.cons (.var 0) (.cons (.var 1) (.cons (.var 2) (.cons (.var 3) (.cons (.var 4) (.cons (.var 5) (.cons (.var 6) (.cons (.var 7) .nil)))))))) 0)) (.app 15 .nil 0) (.t false)) .nil))))
   (.need (.t true) (.pre 20 (.cons (.var 0) (.cons (.var 1) (.cons (.var 2) (.cons (.var 3) (.cons (.var 4) (.cons (.var 5) (.cons (.var 6) (.cons (.var 7) .nil)))))))))
   (.ite (.ite (.ite (.ite (.ite (.bin .lt (.var 0) (.var 4)) (.bin .lt (.var 4) (.var 2)) (.t false)) (.bin .lt (.var 1) (.var 5)) (.t false)) (.bin .lt (.var 5) (.var 3)) (.t false)) (.un .not (.app 20 (.cons (.var 0) (.cons (.var 1) (.cons (.var 2) (.cons (.var 3) (.cons (.var 4) (.cons (.var 5) (.cons (.var 6) (.cons (.var 7) .nil)))))))) 0)) (.t false))
    (.ret (.cons (.t false) .nil))
    (.need (.un .not (.ite (.app 20 (.cons (.var 0) (.cons (.var 1) (.cons (.var 2) (.cons (.var 3) (.cons (.var 4) (.cons (.var 5) (.cons (.var 6) (.cons (.var 7) .nil)))))))) 0) (.ite (.ite (.ite (.bin .le (.bin .max (.var 4) (.var 6)) (.var 0)) (.t true) (.bin .le (.var 2) (.bin .min (.var 4) (.var 6)))) (.t true) (.bin .le (.bin .max (.var 5) (.var 7)) (.var 1))) (.t true) (.bin .le (.var 3) (.bin .min (.var 5) (.var 7)))) (.t false))) (.pre 15 .nil)
    (.ret (.cons (.ite (.un .not (.ite (.app 20 (.cons (.var 0) (.cons (.var 1) (.cons (.var 2) (.cons (.var 3) (.cons (.var 4) (.cons (.var 5) (.cons (.var 6) (.cons (.var 7) .nil)))))))) 0) (.ite (.ite (.ite (.bin .le (.bin .max (.var 4) (.var 6)) (.var 0)) (.t true) (.bin .le (.var 2) (.bin .min (.var 4) (.var 6)))) (.t true) (.bin .le (.bin .max (.var 5) (.var 7)) (.var 1))) (.t true) (.bin .le (.var 3) (.bin .min (.var 5) (.var 7)))) (.t false))) (.app 15 .nil 0) (.t false)) .nil)))))))))
theorem e6 : fnVT Try.prog (sgOf sg6) (ltOf lt6) S6 Try.f6 c6 = vt6 := by kernel_rfl
def T6 : FuncId → List D → List D := tabOf [(10, fn10), (21, fn21), (20, fn20), (15, fn15)]
def fn6 (ρ : List D) : List D := vt6.val T6 ρ
theorem m6 : Meets Try.prog 6 S6 (fun _ => True) fn6 := meets_easy (sgl := sg6) (Φ := T6) mixed (List.forall_mem_cons.2 ⟨m10, List.forall_mem_cons.2 ⟨m21, List.forall_mem_cons.2 ⟨m20, List.forall_mem_cons.2 ⟨m15, (fun _ h => nomatch h)⟩⟩⟩⟩) Try.func6 b6 n6 k6 e6 (by kernel_rfl)

/-! ### 22 -/
def S22 : Sig := ⟨[(true, [(.int .i64), (.int .i64), (.int .i64), (.int .i64)]), (true, [(.int .i64), (.int .i64)])], [(false, [.bool])]⟩
noncomputable def c22 : Code := Try.f22.body.getD .skip
theorem b22 : Try.f22.body = some c22 := body_some (by kernel_rfl)
theorem n22 : (Try.f22.name == "runtime.NumGoroutine") = false := by kernel_rfl
def sg22 : List (FuncId × Sig) := [(9, S9), (31, S31)]
def lt22 : List (Nat × LoopSig) := []
theorem k22 : (Code.loops c22).length = 0 := by kernel_rfl
def vt22 : VT :=
  (.need (.t true) (.pre 9 (.cons (.var 0) (.cons (.var 1) (.cons (.var 2) (.cons (.var 3) .nil)))))
  (.need (.app 9 (.cons (.var 0) (.cons (.var 1) (.cons (.var 2) (.cons (.var 3) .nil)))) 0) (.pre 31 (.cons (.var 4) (.cons (.var 5) .nil)))
  (.ret (.cons (.ite (.ite (.ite (.ite (.ite (.app 9 (.cons (.var 0) (.cons (.var 1) (.cons (.var 2) (.cons (.var 3) .nil)))) 0) (.app 31 (.cons (.var 4) (.cons (.var 5) .nil)) 0) (.t false)) (.bin .le (.var 0) (.var 4)) (.t false)) (.bin .le (.var 4) (.var 2)) (.t false)) (.bin .le (.var 1) (.var 5)) (.t false)) (.bin .le (.var 5) (.var 3)) (.t false)) .nil))))
theorem e22 : fnVT Try.prog (sgOf sg22) (ltOf lt22) S22 Try.f22 c22 = vt22 := by kernel_rfl
def T22 : FuncId → List D → List D := tabOf [(9, fn9), (31, fn31)]
def fn22 (ρ : List D) : List D := vt22.val T22 ρ
theorem m22 : Meets Try.prog 22 S22 (fun _ => True) fn22 := meets_easy (sgl := sg22) (Φ := T22) mixed (List.forall_mem_cons.2 ⟨m9, List.forall_mem_cons.2 ⟨m31, (fun _ h => nomatch h)⟩⟩) Try.func22 b22 n22 k22 e22 (by kernel_rfl)

/-! ### 23 -/
def S23 : Sig := ⟨[(true, [(.int .i64), (.int .i64), (.int .i64), (.int .i64)]), (true, [(.int .i64), (.int .i64)])], [(false, [.bool])]⟩
noncomputable def c23 : Code := Try.f23.body.getD .skip
theorem b23 : Try.f23.body = some c23 := body_some (by kernel_rfl)
theorem n23 : (Try.f23.name == "runtime.NumGoroutine") = false := by kernel_rfl
def sg23 : List (FuncId × Sig) := [(10, S10), (21, S21)]
def lt23 : List (Nat × LoopSig) := []
theorem k23 : (Code.loops c23).length = 0 := by kernel_rfl
def vt23 : VT :=
  (.need (.t true) (.pre 10 (.cons (.var 0) (.cons (.var 1) (.cons (.var 2) (.cons (.var 3) .nil)))))
  (.need (.app 10 (.cons (.var 0) (.cons (.var 1) (.cons (.var 2) (.cons (.var 3) .nil)))) 0) (.pre 21 (.cons (.var 4) (.cons (.var 5) .nil)))
  (.ret (.cons (.ite (.ite (.ite (.ite (.ite (.app 10 (.cons (.var 0) (.cons (.var 1) (.cons (.var 2) (.cons (.var 3) .nil)))) 0) (.app 21 (.cons (.var 4) (.cons (.var 5) .nil)) 0) (.t false)) (.bin .le (.var 0) (.var 4)) (.t false)) (.bin .le (.var 4) (.var 2)) (.t false)) (.bin .le (.var 1) (.var 5)) (.t false)) (.bin .le (.var 5) (.var 3)) (.t false)) .nil))))
theorem e23 : fnVT Try.prog (sgOf sg23) (ltOf lt23) S23 Try.f23 c23 = vt23 := by kernel_rfl
def T23 : FuncId → List D → List D := tabOf [(10, fn10), (21, fn21)]
def fn23 (ρ : List D) : List D := vt23.val T23 ρ
theorem m23 : Meets Try.prog 23 S23 (fun _ => True) fn23 := meets_easy (sgl := sg23) (Φ := T23) mixed (List.forall_mem_cons.2 ⟨m10, List.forall_mem_cons.2 ⟨m21, (fun _ h => nomatch h)⟩⟩) Try.func23 b23 n23 k23 e23 (by kernel_rfl)

/-! ### 24 -/
def S24 : Sig := ⟨[(true, [(.int .i64), (.int .i64), (.int .i64), (.int .i64)]), (true, [(.int .i64), (.int .i64), (.int .i64), (.int .i64)])], [(false, [.bool])]⟩
noncomputable def c24 : Code := Try.f24.body.getD .skip
theorem b24 : Try.f24.body = some c24 := body_some (by kernel_rfl)
theorem n24 : (Try.f24.name == "runtime.NumGoroutine") = false := by kernel_rfl
def sg24 : List (FuncId × Sig) := [(9, S9)]
def lt24 : List (Nat × LoopSig) := []
theorem k24 : (Code.loops c24).length = 0 := by kernel_rfl
def vt24 : VT :=
  (.need (.t true) (.pre 9 (.cons (.var 0) (.cons (.var 1) (.cons (.var 2) (.cons (.var 3) .nil)))))
  (.need (.app 9 (.cons (.var 0) (.cons (.var 1) (.cons (.var 2) (.cons (.var 3) .nil)))) 0) (.pre 9 (.cons (.var 4) (.cons (.var 5) (.cons (.var 6) (.cons (.var 7) .nil)))))
  (.ret (.cons (.ite (.ite (.ite (.ite (.ite (.app 9 (.cons (.var 0) (.cons (.var 1) (.cons (.var 2) (.cons (.var 3) .nil)))) 0) (.app 9 (.cons (.var 4) (.cons (.var 5) (.cons (.var 6) (.cons (.var 7) .nil)))) 0) (.t false)) (.bin .le (.var 4) (.var 0)) (.t false)) (.bin .le (.var 2) (.var 6)) (.t false)) (.bin .le (.var 5) (.var 1)) (.t false)) (.bin .le (.var 3) (.var 7)) (.t false)) .nil))))
theorem e24 : fnVT Try.prog (sgOf sg24) (ltOf lt24) S24 Try.f24 c24 = vt24 := by kernel_rfl
def T24 : FuncId → List D → List D := tabOf [(9, fn9)]
def fn24 (ρ : List D) : List D := vt24.val T24 ρ
theorem m24 : Meets Try.prog 24 S24 (fun _ => True) fn24 := meets_easy (sgl := sg24) (Φ := T24) mixed (List.forall_mem_cons.2 ⟨m9, (fun _ h => nomatch h)⟩) Try.func24 b24 n24 k24 e24 (by kernel_rfl)

/-! ### 25 -/
def S25 : Sig := ⟨[(true, [(.int .i64), (.int .i64), (.int .i64), (.int .i64)]), (true, [(.int .i64), (.int .i64), (.int .i64), (.int .i64)])], [(false, [.bool])]⟩
noncomputable def c25 : Code := Try.f25.body.getD .skip
theorem b25 : Try.f25.body = some c25 := body_some (by kernel_rfl)
theorem n25 : (Try.f25.name == "runtime.NumGoroutine") = false := by kernel_rfl
def sg25 : List (FuncId × Sig) := [(10, S10), (23, S23)]
def lt25 : List (Nat × LoopSig) := []
theorem k25 : (Code.loops c25).length = 0 := by kernel_rfl
def vt25 : VT :=
  (.need (.t true) (.pre 10 (.cons (.var 0) (.cons (.var 1) (.cons (.var 2) (.cons (.var 3) .nil)))))
  (.need (.app 10 (.cons (.var 0) (.cons (.var 1) (.cons (.var 2) (.cons (.var 3) .nil)))) 0) (.pre 23 (.cons (.var 4) (.cons (.var 5) (.cons (.var 6) (.cons (.var 7) (.cons (.var 0) (.cons (.var 1) .nil)))))))
  (.need (.ite (.app 10 (.cons (.var 0) (.cons (.var 1) (.cons (.var 2) (.cons (.var 3) .nil)))) 0) (.app 23 (.cons (.var 4) (.cons (.var 5) (.cons (.var 6) (.cons (.var 7) (.cons (.var 0) (.cons (.var 1) .nil)))))) 0) (.t false)) (.pre 23 (.cons (.var 4) (.cons (.var 5) (.cons (.var 6) (.cons (.var 7) (.cons (.var 2) (.cons (.var 3) .nil)))))))
  (.ret (.cons (.ite (.ite (.app 10 (.cons (.var 0) (.cons (.var 1) (.cons (.var 2) (.cons (.var 3) .nil)))) 0) (.app 23 (.cons (.var 4) (.cons (.var 5) (.cons (.var 6) (.cons (.var 7) (.cons (.var 0) (.cons (.var 1) .nil)))))) 0) (.t false)) (.app 23 (.cons (.var 4) (.cons (.var 5) (.cons (.var 6) (.cons (.var 7) (.cons (.var 2) (.cons (.var 3) .nil)))))) 0) (.t false)) .nil)))))
theorem e25 : fnVT Try.prog (sgOf sg25) (ltOf lt25) S25 Try.f25 c25 = vt25 := by kernel_rfl
def T25 : FuncId → List D → List D := tabOf [(10, fn10), (23, fn23)]
def fn25 (ρ : List D) : List D := vt25.val T25 ρ
theorem m25 : Meets Try.prog 25 S25 (fun _ => True) fn25 := meets_easy (sgl := sg25) (Φ := T25) mixed (List.forall_mem_cons.2 ⟨m10, List.forall_mem_cons.2 ⟨m23, (fun _ h => nomatch h)⟩⟩) Try.func25 b25 n25 k25 e25 (by kernel_rfl)

/-! ### 26 -/
def S26 : Sig := ⟨[(true, [(.int .i64), (.int .i64), (.int .i64), (.int .i64)]), (true, [(.int .i64), (.int .i64), (.int .i64), (.int .i64)])], [(false, [.bool])]⟩
noncomputable def c26 : Code := Try.f26.body.getD .skip
theorem b26 : Try.f26.body = some c26 := body_some (by kernel_rfl)
theorem n26 : (Try.f26.name == "runtime.NumGoroutine") = false := by kernel_rfl
def sg26 : List (FuncId × Sig) := [(10, S10)]
def lt26 : List (Nat × LoopSig) := []
theorem k26 : (Code.loops c26).length = 0 := by kernel_rfl
def vt26 : VT :=
  (.need (.t true) (.pre 10 (.cons (.var 0) (.cons (.var 1) (.cons (.var 2) (.cons (.var 3) .nil)))))
  (.need (.app 10 (.cons (.var 0) (.cons (.var 1) (.cons (.var 2) (.cons (.var 3) .nil)))) 0) (.pre 10 (.cons (.var 4) (.cons (.var 5) (.cons (.var 6) (.cons (.var 7) .nil)))))
  (.ret (.cons (.ite (.ite (.ite (.app 10 (.cons (.var 0) (.cons (.var 1) (.cons (.var 2) (.cons (.var 3) .nil)))) 0) (.app 10 (.cons (.var 4) (.cons (.var 5) (.cons (.var 6) (.cons (.var 7) .nil)))) 0) (.t false)) (.bin .lt (.bin .max (.var 0) (.var 4)) (.bin .min (.var 2) (.var 6))) (.t false)) (.bin .lt (.bin .max (.var 1) (.var 5)) (.bin .min (.var 3) (.var 7))) (.t false)) .nil))))
theorem e26 : fnVT Try.prog (sgOf sg26) (ltOf lt26) S26 Try.f26 c26 = vt26 := by kernel_rfl
def T26 : FuncId → List D → List D := tabOf [(10, fn10)]
def fn26 (ρ : List D) : List D := vt26.val T26 ρ
theorem m26 : Meets Try.prog 26 S26 (fun _ => True) fn26 := meets_easy (sgl := sg26) (Φ := T26) mixed (List.forall_mem_cons.2 ⟨m10, (fun _ h => nomatch h)⟩) Try.func26 b26 n26 k26 e26 (by kernel_rfl)

/-! ### 7 -/
def S7 : Sig := ⟨[(true, [(.int .i64), (.int .i64), (.int .i64), (.int .i64)]), (true, [(.int .i64), (.int .i64), (.int .i64), (.int .i64)]), (true, [(.int .i64), (.int .i64)])], [(false, [.bool])]⟩
noncomputable def c7 : Code := Try.f7.body.getD .skip
theorem b7 : Try.f7.body = some c7 := body_some (by kernel_rfl)
theorem n7 : (Try.f7.name == "runtime.NumGoroutine") = false := by kernel_rfl
def sg7 : List (FuncId × Sig) := [(22, S22), (23, S23), (24, S24), (25, S25), (18, S18), (26, S26), (15, S15)]
def lt7 : List (Nat × LoopSig) := []
theorem k7 : (Code.loops c7).length = 0 := by kernel_rfl
def vt7 : VT :=
  (.need (.t true) (.pre 22 (.cons (.var 0) (.cons (.var 1) (.cons (.var 2) (.cons (.var 3) (.cons (.var 8) (.cons (.var 9) .nil)))))))
  (.need (.t true) (.pre 23 (.cons (.var 0) (.cons (.var 1) (.cons (.var 2) (.cons (.var 3) (.cons (.var 8) (.cons (.var 9) .nil)))))))
  (.need (.bin .beq (.app 22 (.cons (.var 0) (.cons (.var 1) (.cons (.var 2) (.cons (.var 3) (.cons (.var 8) (.cons (.var 9) .nil)))))) 0) (.app 23 (.cons (.var 0) (.cons (.var 1) (.cons (.var 2) (.cons (.var 3) (.cons (.var 8) (.cons (.var 9) .nil)))))) 0)) (.pre 24 (.cons (.var 0) (.cons (.var 1) (.cons (.var 2) (.cons (.var 3) (.cons (.var 4) (.cons (.var 5) (.cons (.var 6) (.cons (.var 7) .nil)))))))))
  (.need (.bin .beq (.app 22 (.cons (.var 0) (.cons (.var 1) (.cons (.var 2) (.cons (.var 3) (.cons (.var 8) (.cons (.var 9) .nil)))))) 0) (.app 23 (.cons (.var 0) (.cons (.var 1) (.cons (.var 2) (.cons (.var 3) (.cons (.var 8) (.cons (.var 9) .nil)))))) 0)) (.pre 25 (.cons (.var 0) (.cons (.var 1) (.cons (.var 2) (.cons (.var 3) (.cons (.var 4) (.cons (.var 5) (.cons (.var 6) (.cons (.var 7) .nil)))))))))
  (.need (.ite (.bin .beq (.app 22 (.cons (.var 0) (.cons (.var 1) (.cons (.var 2) (.cons (.var 3) (.cons (.var 8) (.cons (.var 9) .nil)))))) 0) (.app 23 (.cons (.var 0) (.cons (.var 1) (.cons (.var 2) (.cons (.var 3) (.cons (.var 8) (.cons (.var 9) .nil)))))) 0)) (.bin .beq (.app 24 (.cons (.var 0) (.cons (.var 1) (.cons (.var 2) (.cons (.var 3) (.cons (.var 4) (.cons (.var 5) (.cons (.var 6) (.cons (.var 7) .nil)))))))) 0) (.app 25 (.cons (.var 0) (.cons (.var 1) (.cons (.var 2) (.cons (.var 3) (.cons (.var 4) (.cons (.var 5) (.cons (.var 6) (.cons (.var 7) .nil)))))))) 0)) (.t false)) (.pre 18 (.cons (.var 0) (.cons (.var 1) (.cons (.var 2) (.cons (.var 3) (.cons (.var 4) (.cons (.var 5) (.cons (.var 6) (.cons (.var 7) .nil)))))))))
  (.need (.ite (.bin .beq (.app 22 (.cons (.var 0) (.cons (.var 1) (.cons (.var 2) (.cons (.var 3) (.cons (.var 8) (.cons (.var 9) .nil)))))) 0) (.app 23 (.cons (.var 0) (.cons (.var 1) (.cons (.var 2) (.cons (.var 3) (.cons (.var 8) (.cons (.var 9) .nil)))))) 0)) (.bin .beq (.app 24 (.cons (.var 0) (.cons (.var 1) (.cons (.var 2) (.cons (.var 3) (.cons (.var 4) (.cons (.var 5) (.cons (.var 6) (.cons (.var 7) .nil)))))))) 0) (.app 25 (.cons (.var 0) (.cons (.var 1) (.cons (.var 2) (.cons (.var 3) (.cons (.var 4) (.cons (.var 5) (.cons (.var 6) (.cons (.var 7) .nil)))))))) 0)) (.t false)) (.pre 26 (.cons (.var 0) (.cons (.var 1) (.cons (.var 2) (.cons (.var 3) (.cons (.var 4) (.cons (.var 5) (.cons (.var 6) (.cons (.var 7) .nil)))))))))
  (.need (.ite (.ite (.bin .beq (.app 22 (.cons (.var 0) (.cons (.var 1) (.cons (.var 2) (.cons (.var 3) (.cons (.var 8) (.cons (.var 9) .nil)))))) 0) (.app 23 (.cons (.var 0) (.cons (.var 1) (.cons (.var 2) (.cons (.var 3) (.cons (.var 8) (.cons (.var 9) .nil)))))) 0)) (.bin .beq (.app 24 (.cons (.var 0) (.cons (.var 1) (.cons (.var 2) (.cons (.var 3) (.cons (.var 4) (.cons (.var 5) (.cons (.var 6) (.cons (.var 7) .nil)))))))) 0) (.app 25 (.cons (.var 0) (.cons (.var 1) (.cons (.var 2) (.cons (.var 3) (.cons (.var 4) (.cons (.var 5) (.cons (.var 6) (.cons (.var 7) .nil)))))))) 0)) (.t false)) (.bin .beq (.app 18 (.cons (.var 0) (.cons (.var 1) (.cons (.var 2) (.cons (.var 3) (.cons (.var 4) (.cons (.var 5) (.cons (.var 6) (.cons (.var 7) .nil)))))))) 0) (.app 26 (.cons (.var 0) (.cons (.var 1) (.cons (.var 2) (.cons (.var 3) (.cons (.var 4) (.cons (.var 5) (.cons (.var 6) (.cons (.var 7) .nil)))))))) 0)) (.t false)) (.pre 18 (.cons (.var 4) (.cons (.var 5) (.cons (.var 6) (.cons (.var 7) (.cons (.var 0) (.cons (.var 1) (.cons (.var 2) (.cons (.var 3) .nil)))))))))
  (.need (.ite (.ite (.bin .beq (.app 22 (.cons (.var 0) (.cons (.var 1) (.cons (.var 2) (.cons (.var 3) (.cons (.var 8) (.cons (.var 9) .nil)))))) 0) (.app 23 (.cons (.var 0) (.cons (.var 1) (.cons (.var 2) (.cons (.var 3) (.cons (.var 8) (.cons (.var 9) .nil)))))) 0)) (.bin .beq (.app 24 (.cons (.var 0) (.cons (.var 1) (.cons (.var 2) (.cons (.var 3) (.cons (.var 4) (.cons (.var 5) (.cons (.var 6) (.cons (.var 7) .nil)))))))) 0) (.app 25 (.cons (.var 0) (.cons (.var 1) (.cons (.var 2) (.cons (.var 3) (.cons (.var 4) (.cons (.var 5) (.cons (.var 6) (.cons (.var 7) .nil)))))))) 0)) (.t false)) (.bin .beq (.app 18 (.cons (.var 0) (.cons (.var 1) (.cons (.var 2) (.cons (.var 3) (.cons (.var 4) (.cons (.var 5) (.cons (.var 6) (.cons (.var 7) .nil)))))))) 0) (.app 26 (.cons (.var 0) (.cons (.var 1) (.cons (.var 2) (.cons (.var 3) (.cons (.var 4) (.cons (.var 5) (.cons (.var 6) (.cons (.var 7) .nil)))))))) 0)) (.t false)) (.pre 26 (.cons (.var 0) (.cons (.var 1) (.cons (.var 2) (.cons (.var 3) (.cons (.var 4) (.cons (.var 5) (.cons (.var 6) (.cons (.var 7) .nil)))))))))
  (.need (.ite (.ite (.ite (.bin .beq (.app 22 (.cons (.var 0) (.cons (.var 1) (.cons (.var 2) (.cons (.var 3) (.cons (.var 8) (.cons (.var 9) .nil)))))) 0) (.app 23 (.cons (.var 0) (.cons (.var 1) (.cons (.var 2) (.cons (.var 3) (.cons (.var 8) (.cons (.var 9) .nil)))))) 0)) (.bin .beq (.app 24 (.cons (.var 0) (.cons (.var 1) (.cons (.var 2) (.cons (.var 3) (.cons (.var 4) (.cons (.var 5) (.cons (.var 6) (.cons (.var 7) .nil)))))))) 0) (.app 25 (.cons (.var 0) (.cons (.var 1) (.cons (.var 2) (.cons (.var 3) (.cons (.var 4) (.cons (.var 5) (.cons (.var 6) (.cons (.var 7) .nil)))))))) 0)) (.t false)) (.bin .beq (.app 18 (.cons (.var 0) (.cons (.var 1) (.cons (.var 2) (.cons (.var 3) (.cons (.var 4) (.cons (.var 5) (.cons (.var 6) (.cons (.var 7) .nil)))))))) 0) (.app 26 (.cons (.var 0) (.cons (.var 1) (.cons (.var 2) (.cons (.var 3) (.cons (.var 4) (.cons (.var 5) (.cons (.var 6) (.cons (.var 7) .nil)))))))) 0)) (.t false)) (.bin .beq (.app 18 (.cons (.var 4) (.cons (.var 5) (.cons (.var 6) (.cons (.var 7) (.cons (.var 0) (.cons (.var 1) (.cons (.var 2) (.cons (.var 3) .nil)))))))) 0) (.app 26 (.cons (.var 0) (.cons (.var 1) (.cons (.var 2) (.cons (.var 3) (.cons (.var 4) (.cons (.var 5) (.cons (.var 6) (.cons (.var 7) .nil)))))))) 0)) (.t false)) (.pre 15 .nil)
  (.ret (.cons (.ite (.ite (.ite (.ite (.bin .beq (.app 22 (.cons (.var 0) (.cons (.var 1) (.cons (.var 2) (.cons (.var 3) (.cons (.var 8) (.cons (.var 9) .nil)))))) 0) (.app 23 (.cons (.var 0) (.cons (.var 1) (.cons (.var 2) (.cons (.var 3) (.cons (.var 8) (.cons (.var 9) .nil)))))) 0)) (.bin .beq (.app 24 (.cons (.var 0) (.cons (.var 1) (.cons (.var 2) (.cons (.var 3) (.cons (.var 4) (.cons (.var 5) (.cons (.var 6) (.cons (.var 7) .nil)))))))) 0) (.app 25 (.cons (.var 0) (.cons (.var 1) (.cons (.var 2) (.cons (.var 3) (.cons (.var 4) (.cons (.var 5) (.cons (.var 6) (.cons (.var 7) .nil)))))))) 0)) (.t false)) (.bin .beq (.app 18 (.cons (.var 0) (.cons (.var 1) (.cons (.var 2) (.cons (.var 3) (.cons (.var 4) (.cons (.var 5) (.cons (.var 6) (.cons (.var 7) .nil)))))))) 0) (.app 26 (.cons (.var 0) (.cons (.var 1) (.cons (.var 2) (.cons (.var 3) (.cons (.var 4) (.cons (.var 5) (.cons (.var 6) (.cons (.var 7) .nil)))))))) 0)) (.t false)) (.bin .beq (.app 18 (.cons (.var 4) (.cons (.var 5) (.cons (.var 6) (.cons (.var 7) (.cons (.var 0) (.cons (.var 1) (.cons (.var 2) (.cons (.var 3) .nil)))))))) 0) (.app 26 (.cons (.var 0) (.cons (.var 1) (.cons (.var 2) (.cons (.var 3) (.cons (.var 4) (.cons (.var 5) (.cons (.var 6) (.cons (.var 7) .nil)))))))) 0)) (.t false)) (.app 15 .nil 0) (.t false)) .nil)))))))))))
theorem e7 : fnVT Try.prog (sgOf sg7) (ltOf lt7) S7 Try.f7 c7 = vt7 := by kernel_rfl
def T7 : FuncId → List D → List D := tabOf [(22, fn22), (23, fn23), (24, fn24), (25, fn25), (18, fn18), (26, fn26), (15, fn15)]
def fn7 (ρ : List D) : List D := vt7.val T7 ρ
theorem m7 : Meets Try.prog 7 S7 (fun _ => True) fn7 := meets_easy (sgl := sg7) (Φ := T7) mixed (List.forall_mem_cons.2 ⟨m22, List.forall_mem_cons.2 ⟨m23, List.forall_mem_cons.2 ⟨m24, List.forall_mem_cons.2 ⟨m25, List.forall_mem_cons.2 ⟨m18, List.forall_mem_cons.2 ⟨m26, List.forall_mem_cons.2 ⟨m15, (fun _ h => nomatch h)⟩⟩⟩⟩⟩⟩⟩) Try.func7 b7 n7 k7 e7 (by kernel_rfl)

/-! ### 27 -/
def S27 : Sig := ⟨[(false, [(.sl 23 [(.int .i64), (.int .i64), (.int .i64), (.int .i64)])])], [(true, [(.int .i64), (.int .i64), (.int .i64), (.int .i64)])]⟩
noncomputable def c27 : Code := Try.f27.body.getD .skip
theorem b27 : Try.f27.body = some c27 := body_some (by kernel_rfl)
theorem n27 : (Try.f27.name == "runtime.NumGoroutine") = false := by kernel_rfl
def sg27 : List (FuncId × Sig) := [(9, S9)]
def L27_0 : LoopSig := ⟨12700, [],
   ⟨[.any, .any, .any, (.c (.ptr 1 0)), (.c (.x .bool (.var 0))), .any, .any, (.c (.x (.sl 23 [(.int .i64), (.int .i64), (.int .i64), (.int .i64)]) (.var 1))), (.c (.x (.int .i64) (.var 2))), (.c (.x (.int .i64) (.var 3))), .any, .any, .any, .any, .any, .any, .any, .any, .any, .any, .any, .any, .any, .any, .any, .any, .any, .any, .any, .any, .any, .any, .any, .any, .any, .any, .any, .any, .any, .any, .any, .any, .any],
    [some ⟨(.t true), (.box 23 [(.x (.int .i64) (.var 4)), (.x (.int .i64) (.var 5)), (.x (.int .i64) (.var 6)), (.x (.int .i64) (.var 7))] false)⟩, some ⟨(.t true), (.box 23 [(.x (.int .i64) (.var 8)), (.x (.int .i64) (.var 9)), (.x (.int .i64) (.var 10)), (.x (.int .i64) (.var 11))] false)⟩]⟩,
   12, [0, 3, 8, 9, 10, 11], [10, 11, 12, 6, 35, 36, 37, 34, 39, 38, 40, 4, 13, 14, 15, 16, 17, 18, 19, 20, 21, 22, 23, 24, 25, 26, 27, 28, 29, 30, 31, 32, 33, 41, 9], [(.exit 0)]⟩
def lt27 : List (Nat × LoopSig) := [(4, L27_0)]
theorem k27 : (Code.loops c27).length = 1 := by kernel_rfl
noncomputable def lb27_0 : Code := (Code.loops c27).getD 0 .skip
def rt27_0 : VT :=
  (.ite (.bin .lt (.var 3) (.var 2))
   (.need (.t true) (.c (.bin .le (.n 0) (.var 3)))
   (.need (.t true) (.c (.bin .lt (.var 3) (.un .len (.var 1))))
   (.need (.t true) (.pre 9 (.cons (.sel 0 (.var 1) (.var 3)) (.cons (.sel 1 (.var 1) (.var 3)) (.cons (.sel 2 (.var 1) (.var 3)) (.cons (.sel 3 (.var 1) (.var 3)) .nil)))))
   (.ite (.un .not (.app 9 (.cons (.sel 0 (.var 1) (.var 3)) (.cons (.sel 1 (.var 1) (.var 3)) (.cons (.sel 2 (.var 1) (.var 3)) (.cons (.sel 3 (.var 1) (.var 3)) .nil)))) 0))
    (.ret (.cons (.n (-1)) (.cons (.var 0) (.cons (.bin (.add .i64) (.var 3) (.n 1)) (.cons (.var 8) (.cons (.var 9) (.cons (.var 10) (.cons (.var 11) .nil))))))))
    (.ite (.var 0)
     (.ret (.cons (.n (-1)) (.cons (.t false) (.cons (.bin (.add .i64) (.var 3) (.n 1)) (.cons (.sel 0 (.var 1) (.var 3)) (.cons (.sel 1 (.var 1) (.var 3)) (.cons (.sel 2 (.var 1) (.var 3)) (.cons (.sel 3 (.var 1) (.var 3)) .nil))))))))
     (.ret (.cons (.n (-1)) (.cons (.var 0) (.cons (.bin (.add .i64) (.var 3) (.n 1)) (.cons (.bin .min (.var 8) (.sel 0 (.var 1) (.var 3))) (.cons (.bin .min (.var 9) (.sel 1 (.var 1) (.var 3))) (.cons (.bin .max (.var 10) (.sel 2 (.var 1) (.var 3))) (.cons (.bin .max (.var 11) (.sel 3 (.var 1) (.var 3))) .nil)))))))))))))
   (.ret (.cons (.n 0) (.cons (.var 0) (.cons (.var 3) (.cons (.var 8) (.cons (.var 9) (.cons (.var 10) (.cons (.var 11) .nil)))))))))
theorem le27_0 : loopVT Try.prog (sgOf sg27) (ltOf lt27) L27_0 lb27_0 = rt27_0 := by kernel_rfl
theorem lf27_0 : (firstRegion lb27_0).bind (ltOf lt27) = some L27_0 := by kernel_rfl
theorem lk27_0 : (Code.loops lb27_0).length = 0 := by kernel_rfl
def vt27 : VT :=
  (.need (.t true) (.pre 12700 (.cons (.t true) (.cons (.var 0) (.cons (.un .len (.var 0)) (.cons (.n 0) (.cons (.n 0) (.cons (.n 0) (.cons (.n 0) (.cons (.n 0) (.cons (.n 0) (.cons (.n 0) (.cons (.n 0) (.cons (.n 0) .nil)))))))))))))
  (.ret (.cons (.app 12700 (.cons (.t true) (.cons (.var 0) (.cons (.un .len (.var 0)) (.cons (.n 0) (.cons (.n 0) (.cons (.n 0) (.cons (.n 0) (.cons (.n 0) (.cons (.n 0) (.cons (.n 0) (.cons (.n 0) (.cons (.n 0) .nil)))))))))))) 3) (.cons (.app 12700 (.cons (.t true) (.cons (.var 0) (.cons (.un .len (.var 0)) (.cons (.n 0) (.cons (.n 0) (.cons (.n 0) (.cons (.n 0) (.cons (.n 0) (.cons (.n 0) (.cons (.n 0) (.cons (.n 0) (.cons (.n 0) .nil)))))))))))) 4) (.cons (.app 12700 (.cons (.t true) (.cons (.var 0) (.cons (.un .len (.var 0)) (.cons (.n 0) (.cons (.n 0) (.cons (.n 0) (.cons (.n 0) (.cons (.n 0) (.cons (.n 0) (.cons (.n 0) (.cons (.n 0) (.cons (.n 0) .nil)))))))))))) 5) (.cons (.app 12700 (.cons (.t true) (.cons (.var 0) (.cons (.un .len (.var 0)) (.cons (.n 0) (.cons (.n 0) (.cons (.n 0) (.cons (.n 0) (.cons (.n 0) (.cons (.n 0) (.cons (.n 0) (.cons (.n 0) (.cons (.n 0) .nil)))))))))))) 6) .nil))))))
theorem e27 : fnVT Try.prog (sgOf sg27) (ltOf lt27) S27 Try.f27 c27 = vt27 := by kernel_rfl

/-! ### 28 -/
def S28 : Sig := ⟨[(false, [(.sl 23 [(.int .i64), (.int .i64), (.int .i64), (.int .i64)])])], [(true, [(.int .i64), (.int .i64), (.int .i64), (.int .i64)])]⟩
noncomputable def c28 : Code := Try.f28.body.getD .skip
theorem b28 : Try.f28.body = some c28 := body_some (by kernel_rfl)
theorem n28 : (Try.f28.name == "runtime.NumGoroutine") = false := by kernel_rfl
def sg28 : List (FuncId × Sig) := [(10, S10)]
def L28_0 : LoopSig := ⟨12800, [],
   ⟨[(.c (.x (.sl 23 [(.int .i64), (.int .i64), (.int .i64), (.int .i64)]) (.var 0))), .any, .any, (.c (.ptr 1 0)), (.c (.x .bool (.var 1))), (.c (.x (.int .i64) (.var 2))), .any, .any, .any, .any, .any, .any, .any, .any, .any, .any, .any, .any, .any, .any, .any, .any, .any, .any, .any, .any, .any, .any, .any, .any, .any, .any, .any, .any, .any, .any, .any, .any, .any, .any, .any, .any, .any, .any, .any, .any],
    [some ⟨(.t true), (.box 23 [(.x (.int .i64) (.var 3)), (.x (.int .i64) (.var 4)), (.x (.int .i64) (.var 5)), (.x (.int .i64) (.var 6))] false)⟩, some ⟨(.t true), (.box 23 [(.x (.int .i64) (.var 7)), (.x (.int .i64) (.var 8)), (.x (.int .i64) (.var 9)), (.x (.int .i64) (.var 10))] false)⟩]⟩,
   11, [1, 2, 7, 8, 9, 10], [8, 9, 10, 11, 14, 15, 16, 17, 6, 18, 19, 20, 21, 22, 23, 4, 24, 25, 26, 27, 28, 29, 30, 31, 32, 33, 34, 35, 36, 37, 38, 39, 40, 41, 42, 43, 44, 12, 13, 5], [(.exit 0)]⟩
def lt28 : List (Nat × LoopSig) := [(3, L28_0)]
theorem k28 : (Code.loops c28).length = 1 := by kernel_rfl
noncomputable def lb28_0 : Code := (Code.loops c28).getD 0 .skip
def rt28_0 : VT :=
  (.ite (.bin .lt (.var 2) (.un .len (.var 0)))
   (.need (.t true) (.c (.bin .le (.n 0) (.var 2)))
   (.need (.t true) (.c (.bin .lt (.var 2) (.un .len (.var 0))))
   (.need (.t true) (.pre 10 (.cons (.sel 0 (.var 0) (.var 2)) (.cons (.sel 1 (.var 0) (.var 2)) (.cons (.sel 2 (.var 0) (.var 2)) (.cons (.sel 3 (.var 0) (.var 2)) .nil)))))
   (.ite (.un .not (.app 10 (.cons (.sel 0 (.var 0) (.var 2)) (.cons (.sel 1 (.var 0) (.var 2)) (.cons (.sel 2 (.var 0) (.var 2)) (.cons (.sel 3 (.var 0) (.var 2)) .nil)))) 0))
    (.ret (.cons (.n (-1)) (.cons (.var 1) (.cons (.bin (.add .i64) (.var 2) (.n 1)) (.cons (.var 7) (.cons (.var 8) (.cons (.var 9) (.cons (.var 10) .nil))))))))
    (.ite (.un .not (.var 1))
     (.ret (.cons (.n (-1)) (.cons (.t true) (.cons (.bin (.add .i64) (.var 2) (.n 1)) (.cons (.bin .min (.sel 0 (.var 0) (.var 2)) (.sel 0 (.var 0) (.var 2))) (.cons (.bin .min (.sel 1 (.var 0) (.var 2)) (.sel 1 (.var 0) (.var 2))) (.cons (.bin .max (.sel 2 (.var 0) (.var 2)) (.sel 2 (.var 0) (.var 2))) (.cons (.bin .max (.sel 3 (.var 0) (.var 2)) (.sel 3 (.var 0) (.var 2))) .nil))))))))
     (.ret (.cons (.n (-1)) (.cons (.var 1) (.cons (.bin (.add .i64) (.var 2) (.n 1)) (.cons (.bin .min (.var 7) (.sel 0 (.var 0) (.var 2))) (.cons (.bin .min (.var 8) (.sel 1 (.var 0) (.var 2))) (.cons (.bin .max (.var 9) (.sel 2 (.var 0) (.var 2))) (.cons (.bin .max (.var 10) (.sel 3 (.var 0) (.var 2))) .nil)))))))))))))
   (.ret (.cons (.n 0) (.cons (.var 1) (.cons (.var 2) (.cons (.var 7) (.cons (.var 8) (.cons (.var 9) (.cons (.var 10) .nil)))))))))
theorem le28_0 : loopVT Try.prog (sgOf sg28) (ltOf lt28) L28_0 lb28_0 = rt28_0 := by kernel_rfl
theorem lf28_0 : (firstRegion lb28_0).bind (ltOf lt28) = some L28_0 := by kernel_rfl
theorem lk28_0 : (Code.loops lb28_0).length = 0 := by kernel_rfl
def vt28 : VT :=
  (.need (.t true) (.pre 12800 (.cons (.var 0) (.cons (.t false) (.cons (.n 0) (.cons (.n 0) (.cons (.n 0) (.cons (.n 0) (.cons (.n 0) (.cons (.n 0) (.cons (.n 0) (.cons (.n 0) (.cons (.n 0) .nil))))))))))))
  (.ret (.cons (.app 12800 (.cons (.var 0) (.cons (.t false) (.cons (.n 0) (.cons (.n 0) (.cons (.n 0) (.cons (.n 0) (.cons (.n 0) (.cons (.n 0) (.cons (.n 0) (.cons (.n 0) (.cons (.n 0) .nil))))))))))) 3) (.cons (.app 12800 (.cons (.var 0) (.cons (.t false) (.cons (.n 0) (.cons (.n 0) (.cons (.n 0) (.cons (.n 0) (.cons (.n 0) (.cons (.n 0) (.cons (.n 0) (.cons (.n 0) (.cons (.n 0) .nil))))))))))) 4) (.cons (.app 12800 (.cons (.var 0) (.cons (.t false) (.cons (.n 0) (.cons (.n 0) (.cons (.n 0) (.cons (.n 0) (.cons (.n 0) (.cons (.n 0) (.cons (.n 0) (.cons (.n 0) (.cons (.n 0) .nil))))))))))) 5) (.cons (.app 12800 (.cons (.var 0) (.cons (.t false) (.cons (.n 0) (.cons (.n 0) (.cons (.n 0) (.cons (.n 0) (.cons (.n 0) (.cons (.n 0) (.cons (.n 0) (.cons (.n 0) (.cons (.n 0) .nil))))))))))) 6) .nil))))))
theorem e28 : fnVT Try.prog (sgOf sg28) (ltOf lt28) S28 Try.f28 c28 = vt28 := by kernel_rfl

/-! ### 29 -/
def S29 : Sig := ⟨[(true, [(.int .i64), (.int .i64), (.int .i64), (.int .i64)]), (false, [(.int .i64)])], [(true, [(.int .i64), (.int .i64), (.int .i64), (.int .i64)])]⟩
noncomputable def c29 : Code := Try.f29.body.getD .skip
theorem b29 : Try.f29.body = some c29 := body_some (by kernel_rfl)
theorem n29 : (Try.f29.name == "runtime.NumGoroutine") = false := by kernel_rfl
def sg29 : List (FuncId × Sig) := [(9, S9), (33, S33)]
def lt29 : List (Nat × LoopSig) := []
theorem k29 : (Code.loops c29).length = 0 := by kernel_rfl
def vt29 : VT :=
  (.need (.t true) (.pre 9 (.cons (.var 0) (.cons (.var 1) (.cons (.var 2) (.cons (.var 3) .nil)))))
  (.ite (.ite (.ite (.un .not (.app 9 (.cons (.var 0) (.cons (.var 1) (.cons (.var 2) (.cons (.var 3) .nil)))) 0)) (.t true) (.bin .lt (.n 536870912) (.var 4))) (.t true) (.bin .lt (.var 4) (.n (-536870912))))
   (.ret (.cons (.n 0) (.cons (.n 0) (.cons (.n 0) (.cons (.n 0) .nil)))))
   (.need (.t true) (.pre 33 (.cons (.bin (.sub .i64) (.var 0) (.var 4)) (.cons (.bin (.sub .i64) (.var 1) (.var 4)) (.cons (.bin (.add .i64) (.var 2) (.var 4)) (.cons (.bin (.add .i64) (.var 3) (.var 4)) .nil)))))
   (.ret (.cons (.app 33 (.cons (.bin (.sub .i64) (.var 0) (.var 4)) (.cons (.bin (.sub .i64) (.var 1) (.var 4)) (.cons (.bin (.add .i64) (.var 2) (.var 4)) (.cons (.bin (.add .i64) (.var 3) (.var 4)) .nil)))) 0) (.cons (.app 33 (.cons (.bin (.sub .i64) (.var 0) (.var 4)) (.cons (.bin (.sub .i64) (.var 1) (.var 4)) (.cons (.bin (.add .i64) (.var 2) (.var 4)) (.cons (.bin (.add .i64) (.var 3) (.var 4)) .nil)))) 1) (.cons (.app 33 (.cons (.bin (.sub .i64) (.var 0) (.var 4)) (.cons (.bin (.sub .i64) (.var 1) (.var 4)) (.cons (.bin (.add .i64) (.var 2) (.var 4)) (.cons (.bin (.add .i64) (.var 3) (.var 4)) .nil)))) 2) (.cons (.app 33 (.cons (.bin (.sub .i64) (.var 0) (.var 4)) (.cons (.bin (.sub .i64) (.var 1) (.var 4)) (.cons (.bin (.add .i64) (.var 2) (.var 4)) (.cons (.bin (.add .i64) (.var 3) (.var 4)) .nil)))) 3) .nil))))))))
theorem e29 : fnVT Try.prog (sgOf sg29) (ltOf lt29) S29 Try.f29 c29 = vt29 := by kernel_rfl
def T29 : FuncId → List D → List D := tabOf [(9, fn9), (33, fn33)]
def fn29 (ρ : List D) : List D := vt29.val T29 ρ
theorem m29 : Meets Try.prog 29 S29 (fun _ => True) fn29 := meets_easy (sgl := sg29) (Φ := T29) mixed (List.forall_mem_cons.2 ⟨m9, List.forall_mem_cons.2 ⟨m33, (fun _ h => nomatch h)⟩⟩) Try.func29 b29 n29 k29 e29 (by kernel_rfl)

/-! ### 30 -/
def S30 : Sig := ⟨[(true, [(.int .i64), (.int .i64), (.int .i64), (.int .i64)]), (false, [(.int .i64)])], [(true, [(.int .i64), (.int .i64), (.int .i64), (.int .i64)])]⟩
noncomputable def c30 : Code := Try.f30.body.getD .skip
theorem b30 : Try.f30.body = some c30 := body_some (by kernel_rfl)
theorem n30 : (Try.f30.name == "runtime.NumGoroutine") = false := by kernel_rfl
def sg30 : List (FuncId × Sig) := [(10, S10)]
def lt30 : List (Nat × LoopSig) := []
theorem k30 : (Code.loops c30).length = 0 := by kernel_rfl
def vt30 : VT :=
  (.need (.t true) (.pre 10 (.cons (.var 0) (.cons (.var 1) (.cons (.var 2) (.cons (.var 3) .nil)))))
  (.ite (.ite (.ite (.un .not (.app 10 (.cons (.var 0) (.cons (.var 1) (.cons (.var 2) (.cons (.var 3) .nil)))) 0)) (.t true) (.bin .lt (.var 4) (.n (-536870912)))) (.t true) (.bin .lt (.n 536870912) (.var 4)))
   (.ret (.cons (.n 0) (.cons (.n 0) (.cons (.n 0) (.cons (.n 0) .nil)))))
   (.need (.t true) (.pre 10 (.cons (.bin (.sub .i64) (.var 0) (.var 4)) (.cons (.bin (.sub .i64) (.var 1) (.var 4)) (.cons (.bin (.add .i64) (.var 2) (.var 4)) (.cons (.bin (.add .i64) (.var 3) (.var 4)) .nil)))))
   (.ite (.un .not (.app 10 (.cons (.bin (.sub .i64) (.var 0) (.var 4)) (.cons (.bin (.sub .i64) (.var 1) (.var 4)) (.cons (.bin (.add .i64) (.var 2) (.var 4)) (.cons (.bin (.add .i64) (.var 3) (.var 4)) .nil)))) 0))
    (.ret (.cons (.n 0) (.cons (.n 0) (.cons (.n 0) (.cons (.n 0) .nil)))))
    (.ret (.cons (.bin (.sub .i64) (.var 0) (.var 4)) (.cons (.bin (.sub .i64) (.var 1) (.var 4)) (.cons (.bin (.add .i64) (.var 2) (.var 4)) (.cons (.bin (.add .i64) (.var 3) (.var 4)) .nil)))))))))
theorem e30 : fnVT Try.prog (sgOf sg30) (ltOf lt30) S30 Try.f30 c30 = vt30 := by kernel_rfl
def T30 : FuncId → List D → List D := tabOf [(10, fn10)]
def fn30 (ρ : List D) : List D := vt30.val T30 ρ
theorem m30 : Meets Try.prog 30 S30 (fun _ => True) fn30 := meets_easy (sgl := sg30) (Φ := T30) mixed (List.forall_mem_cons.2 ⟨m10, (fun _ h => nomatch h)⟩) Try.func30 b30 n30 k30 e30 (by kernel_rfl)

/-! ### 8 -/
def S8 : Sig := ⟨[(false, [(.sl 23 [(.int .i64), (.int .i64), (.int .i64), (.int .i64)])]), (true, [(.int .i64), (.int .i64), (.int .i64), (.int .i64)]), (false, [(.int .i64)])], [(false, [.bool])]⟩
noncomputable def c8 : Code := Try.f8.body.getD .skip
theorem b8 : Try.f8.body = some c8 := body_some (by kernel_rfl)
theorem n8 : (Try.f8.name == "runtime.NumGoroutine") = false := by kernel_rfl
def sg8 : List (FuncId × Sig) := [(15, S15), (27, S27), (28, S28), (29, S29), (30, S30), (9, S9), (24, S24)]
def L8_0 : LoopSig := ⟨10800, [(7, none, 23)],
   ⟨[(.c (.x (.sl 23 [(.int .i64), (.int .i64), (.int .i64), (.int .i64)]) (.var 0))), .any, .any, .any, .any, .any, .any, (.c (.row 1 1)), (.c (.x (.int .i64) (.var 1))), .any, .any, .any, .any, .any, .any, .any, .any, .any, .any, .any, .any, .any, .any, .any, .any, .any, .any, .any, .any, .any, .any, .any, .any, .any, .any, .any, .any, .any, .any, .any, .any, .any, .any, .any, .any, .any, .any, .any, .any, .any, .any, .any, .any, .any, .any, .any, .any, .any, .any, .any, .any, .any, .any, .any, .any, .any, .any, .any, .any, .any, .any, .any, .any, .any, .any, .any],
    [some ⟨(.t true), (.box 23 [(.x (.int .i64) (.var 2)), (.x (.int .i64) (.var 3)), (.x (.int .i64) (.var 4)), (.x (.int .i64) (.var 5))] false)⟩, some ⟨(.t true), (.row 23 [(.int .i64), (.int .i64), (.int .i64), (.int .i64)] (.var 6) 1 false)⟩]⟩,
   7, [1, 6], [18, 19, 22, 23, 24, 25, 26, 27, 28, 7, 20, 21, 8], [(.exit 0)]⟩
def L8_1 : LoopSig := ⟨10801, [],
   ⟨[(.c (.x (.sl 23 [(.int .i64), (.int .i64), (.int .i64), (.int .i64)]) (.var 0))), .any, .any, .any, .any, .any, (.c (.x .bool (.var 1))), .any, .any, (.c (.ptr 2 0)), (.c (.x (.int .i64) (.var 2))), .any, .any, .any, .any, .any, .any, .any, .any, .any, .any, .any, .any, .any, .any, .any, .any, .any, .any, .any, .any, .any, .any, .any, .any, .any, .any, .any, .any, .any, .any, .any, .any, .any, .any, .any, .any, .any, .any, .any, .any, .any, .any, .any, .any, .any, .any, .any, .any, .any, .any, .any, .any, .any, .any, .any, .any, .any, .any, .any, .any, .any, .any, .any, .any, .any],
    [some ⟨(.t true), (.box 23 [(.x (.int .i64) (.var 3)), (.x (.int .i64) (.var 4)), (.x (.int .i64) (.var 5)), (.x (.int .i64) (.var 6))] false)⟩, some ⟨(.t true), (.row 23 [(.int .i64), (.int .i64), (.int .i64), (.int .i64)] (.var 7) 1 false)⟩, some ⟨(.t true), (.box 23 [(.x (.int .i64) (.var 8)), (.x (.int .i64) (.var 9)), (.x (.int .i64) (.var 10)), (.x (.int .i64) (.var 11))] false)⟩]⟩,
   12, [1, 2], [50, 51, 52, 53, 56, 57, 58, 59, 60, 61, 62, 63, 64, 65, 66, 67, 68, 69, 6, 54, 55, 10], [.ret, (.exit 2)]⟩
def lt8 : List (Nat × LoopSig) := [(5, L8_0), (12, L8_1)]
theorem k8 : (Code.loops c8).length = 2 := by kernel_rfl
noncomputable def lb8_0 : Code := (Code.loops c8).getD 0 .skip
noncomputable def lb8_1 : Code := (Code.loops c8).getD 1 .skip
def rt8_0 : VT :=
  (.ite (.bin .le (.n 0) (.var 1))
   (.need (.t true) (.c (.bin .le (.n 0) (.var 1)))
   (.need (.t true) (.c (.bin .lt (.var 1) (.un .len (.var 0))))
   (.need (.t true) (.c (.bin .le (.un .len (.bin .cat (.var 6) (.lcons (.cons (.sel 0 (.var 0) (.var 1)) (.cons (.sel 1 (.var 0) (.var 1)) (.cons (.sel 2 (.var 0) (.var 1)) (.cons (.sel 3 (.var 0) (.var 1)) .nil)))) .lnil))) (.n 4398046511104)))
   (.ret (.cons (.n (-1)) (.cons (.bin (.sub .i64) (.var 1) (.n 1)) (.cons (.bin .cat (.var 6) (.lcons (.cons (.sel 0 (.var 0) (.var 1)) (.cons (.sel 1 (.var 0) (.var 1)) (.cons (.sel 2 (.var 0) (.var 1)) (.cons (.sel 3 (.var 0) (.var 1)) .nil)))) .lnil)) .nil)))))))
   (.ret (.cons (.n 0) (.cons (.var 1) (.cons (.var 6) .nil)))))
theorem le8_0 : loopVT Try.prog (sgOf sg8) (ltOf lt8) L8_0 lb8_0 = rt8_0 := by kernel_rfl
theorem lf8_0 : (firstRegion lb8_0).bind (ltOf lt8) = some L8_0 := by kernel_rfl
theorem lk8_0 : (Code.loops lb8_0).length = 0 := by kernel_rfl
def rt8_1 : VT :=
  (.ite (.bin .lt (.var 2) (.un .len (.var 0)))
   (.need (.t true) (.c (.bin .le (.n 0) (.var 2)))
   (.need (.t true) (.c (.bin .lt (.var 2) (.un .len (.var 0))))
   (.need (.t true) (.pre 9 (.cons (.sel 0 (.var 0) (.var 2)) (.cons (.sel 1 (.var 0) (.var 2)) (.cons (.sel 2 (.var 0) (.var 2)) (.cons (.sel 3 (.var 0) (.var 2)) .nil)))))
   (.need (.app 9 (.cons (.sel 0 (.var 0) (.var 2)) (.cons (.sel 1 (.var 0) (.var 2)) (.cons (.sel 2 (.var 0) (.var 2)) (.cons (.sel 3 (.var 0) (.var 2)) .nil)))) 0) (.c (.bin .le (.n 0) (.var 2)))
   (.need (.app 9 (.cons (.sel 0 (.var 0) (.var 2)) (.cons (.sel 1 (.var 0) (.var 2)) (.cons (.sel 2 (.var 0) (.var 2)) (.cons (.sel 3 (.var 0) (.var 2)) .nil)))) 0) (.c (.bin .lt (.var 2) (.un .len (.var 0))))
   (.need (.app 9 (.cons (.sel 0 (.var 0) (.var 2)) (.cons (.sel 1 (.var 0) (.var 2)) (.cons (.sel 2 (.var 0) (.var 2)) (.cons (.sel 3 (.var 0) (.var 2)) .nil)))) 0) (.pre 24 (.cons (.sel 0 (.var 0) (.var 2)) (.cons (.sel 1 (.var 0) (.var 2)) (.cons (.sel 2 (.var 0) (.var 2)) (.cons (.sel 3 (.var 0) (.var 2)) (.cons (.var 8) (.cons (.var 9) (.cons (.var 10) (.cons (.var 11) .nil)))))))))
   (.ite (.ite (.app 9 (.cons (.sel 0 (.var 0) (.var 2)) (.cons (.sel 1 (.var 0) (.var 2)) (.cons (.sel 2 (.var 0) (.var 2)) (.cons (.sel 3 (.var 0) (.var 2)) .nil)))) 0) (.un .not (.app 24 (.cons (.sel 0 (.var 0) (.var 2)) (.cons (.sel 1 (.var 0) (.var 2)) (.cons (.sel 2 (.var 0) (.var 2)) (.cons (.sel 3 (.var 0) (.var 2)) (.cons (.var 8) (.cons (.var 9) (.cons (.var 10) (.cons (.var 11) .nil)))))))) 0)) (.t false))
    (.ret (.cons (.n 0) (.cons (.t false) (.cons (.var 2) .nil))))
    (.ret (.cons (.n (-1)) (.cons (.var 1) (.cons (.bin (.add .i64) (.var 2) (.n 1)) .nil)))))))))))
   (.ret (.cons (.n 1) (.cons (.var 1) (.cons (.var 2) .nil)))))
theorem le8_1 : loopVT Try.prog (sgOf sg8) (ltOf lt8) L8_1 lb8_1 = rt8_1 := by kernel_rfl
theorem lf8_1 : (firstRegion lb8_1).bind (ltOf lt8) = some L8_1 := by kernel_rfl
theorem lk8_1 : (Code.loops lb8_1).length = 0 := by kernel_rfl
def vt8 : VT :=
  (.ite (.bin .lt (.n 40) (.un .len (.var 0)))
   (.need (.t true) (.pre 15 .nil)
   (.ret (.cons (.app 15 .nil 0) .nil)))
   (.need (.t true) (.pre 10800 (.cons (.var 0) (.cons (.bin (.sub .i64) (.un .len (.var 0)) (.n 1)) (.cons (.var 1) (.cons (.var 2) (.cons (.var 3) (.cons (.var 4) (.cons .lnil .nil))))))))
   (.need (.t true) (.pre 27 (.cons (.var 0) .nil))
   (.need (.t true) (.pre 28 (.cons (.var 0) .nil))
   (.need (.un .not (.un .not (.ite (.bin .eq (.app 27 (.cons (.var 0) .nil) 0) (.app 28 (.cons (.var 0) .nil) 0)) (.ite (.bin .eq (.app 27 (.cons (.var 0) .nil) 1) (.app 28 (.cons (.var 0) .nil) 1)) (.ite (.bin .eq (.app 27 (.cons (.var 0) .nil) 2) (.app 28 (.cons (.var 0) .nil) 2)) (.bin .eq (.app 27 (.cons (.var 0) .nil) 3) (.app 28 (.cons (.var 0) .nil) 3)) (.t false)) (.t false)) (.t false)))) (.pre 27 (.cons (.app 10800 (.cons (.var 0) (.cons (.bin (.sub .i64) (.un .len (.var 0)) (.n 1)) (.cons (.var 1) (.cons (.var 2) (.cons (.var 3) (.cons (.var 4) (.cons .lnil .nil))))))) 2) .nil))
   (.need (.un .not (.ite (.un .not (.ite (.bin .eq (.app 27 (.cons (.var 0) .nil) 0) (.app 28 (.cons (.var 0) .nil) 0)) (.ite (.bin .eq (.app 27 (.cons (.var 0) .nil) 1) (.app 28 (.cons (.var 0) .nil) 1)) (.ite (.bin .eq (.app 27 (.cons (.var 0) .nil) 2) (.app 28 (.cons (.var 0) .nil) 2)) (.bin .eq (.app 27 (.cons (.var 0) .nil) 3) (.app 28 (.cons (.var 0) .nil) 3)) (.t false)) (.t false)) (.t false))) (.t true) (.un .not (.ite (.bin .eq (.app 27 (.cons (.app 10800 (.cons (.var 0) (.cons (.bin (.sub .i64) (.un .len (.var 0)) (.n 1)) (.cons (.var 1) (.cons (.var 2) (.cons (.var 3) (.cons (.var 4) (.cons .lnil .nil))))))) 2) .nil) 0) (.app 27 (.cons (.var 0) .nil) 0)) (.ite (.bin .eq (.app 27 (.cons (.app 10800 (.cons (.var 0) (.cons (.bin (.sub .i64) (.un .len (.var 0)) (.n 1)) (.cons (.var 1) (.cons (.var 2) (.cons (.var 3) (.cons (.var 4) (.cons .lnil .nil))))))) 2) .nil) 1) (.app 27 (.cons (.var 0) .nil) 1)) (.ite (.bin .eq (.app 27 (.cons (.app 10800 (.cons (.var 0) (.cons (.bin (.sub .i64) (.un .len (.var 0)) (.n 1)) (.cons (.var 1) (.cons (.var 2) (.cons (.var 3) (.cons (.var 4) (.cons .lnil .nil))))))) 2) .nil) 2) (.app 27 (.cons (.var 0) .nil) 2)) (.bin .eq (.app 27 (.cons (.app 10800 (.cons (.var 0) (.cons (.bin (.sub .i64) (.un .len (.var 0)) (.n 1)) (.cons (.var 1) (.cons (.var 2) (.cons (.var 3) (.cons (.var 4) (.cons .lnil .nil))))))) 2) .nil) 3) (.app 27 (.cons (.var 0) .nil) 3)) (.t false)) (.t false)) (.t false))))) (.pre 29 (.cons (.var 1) (.cons (.var 2) (.cons (.var 3) (.cons (.var 4) (.cons (.var 5) .nil))))))
   (.need (.un .not (.ite (.un .not (.ite (.bin .eq (.app 27 (.cons (.var 0) .nil) 0) (.app 28 (.cons (.var 0) .nil) 0)) (.ite (.bin .eq (.app 27 (.cons (.var 0) .nil) 1) (.app 28 (.cons (.var 0) .nil) 1)) (.ite (.bin .eq (.app 27 (.cons (.var 0) .nil) 2) (.app 28 (.cons (.var 0) .nil) 2)) (.bin .eq (.app 27 (.cons (.var 0) .nil) 3) (.app 28 (.cons (.var 0) .nil) 3)) (.t false)) (.t false)) (.t false))) (.t true) (.un .not (.ite (.bin .eq (.app 27 (.cons (.app 10800 (.cons (.var 0) (.cons (.bin (.sub .i64) (.un .len (.var 0)) (.n 1)) (.cons (.var 1) (.cons (.var 2) (.cons (.var 3) (.cons (.var 4) (.cons .lnil .nil))))))) 2) .nil) 0) (.app 27 (.cons (.var 0) .nil) 0)) (.ite (.bin .eq (.app 27 (.cons (.app 10800 (.cons (.var 0) (.cons (.bin (.sub .i64) (.un .len (.var 0)) (.n 1)) (.cons (.var 1) (.cons (.var 2) (.cons (.var 3) (.cons (.var 4) (.cons .lnil .nil))))))) 2) .nil) 1) (.app 27 (.cons (.var 0) .nil) 1)) (.ite (.bin .eq (.app 27 (.cons (.app 10800 (.cons (.var 0) (.cons (.bin (.sub .i64) (.un .len (.var 0)) (.n 1)) (.cons (.var 1) (.cons (.var 2) (.cons (.var 3) (.cons (.var 4) (.cons .lnil .nil))))))) 2) .nil) 2) (.app 27 (.cons (.var 0) .nil) 2)) (.bin .eq (.app 27 (.cons (.app 10800 (.cons (.var 0) (.cons (.bin (.sub .i64) (.un .len (.var 0)) (.n 1)) (.cons (.var 1) (.cons (.var 2) (.cons (.var 3) (.cons (.var 4) (.cons .lnil .nil))))))) 2) .nil) 3) (.app 27 (.cons (.var 0) .nil) 3)) (.t false)) (.t false)) (.t false))))) (.pre 30 (.cons (.var 1) (.cons (.var 2) (.cons (.var 3) (.cons (.var 4) (.cons (.var 5) .nil))))))
   (.ite (.ite (.ite (.un .not (.ite (.bin .eq (.app 27 (.cons (.var 0) .nil) 0) (.app 28 (.cons (.var 0) .nil) 0)) (.ite (.bin .eq (.app 27 (.cons (.var 0) .nil) 1) (.app 28 (.cons (.var 0) .nil) 1)) (.ite (.bin .eq (.app 27 (.cons (.var 0) .nil) 2) (.app 28 (.cons (.var 0) .nil) 2)) (.bin .eq (.app 27 (.cons (.var 0) .nil) 3) (.app 28 (.cons (.var 0) .nil) 3)) (.t false)) (.t false)) (.t false))) (.t true) (.un .not (.ite (.bin .eq (.app 27 (.cons (.app 10800 (.cons (.var 0) (.cons (.bin (.sub .i64) (.un .len (.var 0)) (.n 1)) (.cons (.var 1) (.cons (.var 2) (.cons (.var 3) (.cons (.var 4) (.cons .lnil .nil))))))) 2) .nil) 0) (.app 27 (.cons (.var 0) .nil) 0)) (.ite (.bin .eq (.app 27 (.cons (.app 10800 (.cons (.var 0) (.cons (.bin (.sub .i64) (.un .len (.var 0)) (.n 1)) (.cons (.var 1) (.cons (.var 2) (.cons (.var 3) (.cons (.var 4) (.cons .lnil .nil))))))) 2) .nil) 1) (.app 27 (.cons (.var 0) .nil) 1)) (.ite (.bin .eq (.app 27 (.cons (.app 10800 (.cons (.var 0) (.cons (.bin (.sub .i64) (.un .len (.var 0)) (.n 1)) (.cons (.var 1) (.cons (.var 2) (.cons (.var 3) (.cons (.var 4) (.cons .lnil .nil))))))) 2) .nil) 2) (.app 27 (.cons (.var 0) .nil) 2)) (.bin .eq (.app 27 (.cons (.app 10800 (.cons (.var 0) (.cons (.bin (.sub .i64) (.un .len (.var 0)) (.n 1)) (.cons (.var 1) (.cons (.var 2) (.cons (.var 3) (.cons (.var 4) (.cons .lnil .nil))))))) 2) .nil) 3) (.app 27 (.cons (.var 0) .nil) 3)) (.t false)) (.t false)) (.t false)))) (.t true) (.un .not (.ite (.bin .eq (.app 29 (.cons (.var 1) (.cons (.var 2) (.cons (.var 3) (.cons (.var 4) (.cons (.var 5) .nil))))) 0) (.app 30 (.cons (.var 1) (.cons (.var 2) (.cons (.var 3) (.cons (.var 4) (.cons (.var 5) .nil))))) 0)) (.ite (.bin .eq (.app 29 (.cons (.var 1) (.cons (.var 2) (.cons (.var 3) (.cons (.var 4) (.cons (.var 5) .nil))))) 1) (.app 30 (.cons (.var 1) (.cons (.var 2) (.cons (.var 3) (.cons (.var 4) (.cons (.var 5) .nil))))) 1)) (.ite (.bin .eq (.app 29 (.cons (.var 1) (.cons (.var 2) (.cons (.var 3) (.cons (.var 4) (.cons (.var 5) .nil))))) 2) (.app 30 (.cons (.var 1) (.cons (.var 2) (.cons (.var 3) (.cons (.var 4) (.cons (.var 5) .nil))))) 2)) (.bin .eq (.app 29 (.cons (.var 1) (.cons (.var 2) (.cons (.var 3) (.cons (.var 4) (.cons (.var 5) .nil))))) 3) (.app 30 (.cons (.var 1) (.cons (.var 2) (.cons (.var 3) (.cons (.var 4) (.cons (.var 5) .nil))))) 3)) (.t false)) (.t false)) (.t false))))
    (.ret (.cons (.t false) .nil))
    (.need (.t true) (.pre 10801 (.cons (.var 0) (.cons (.t false) (.cons (.n 0) (.cons (.var 1) (.cons (.var 2) (.cons (.var 3) (.cons (.var 4) (.cons (.app 10800 (.cons (.var 0) (.cons (.bin (.sub .i64) (.un .len (.var 0)) (.n 1)) (.cons (.var 1) (.cons (.var 2) (.cons (.var 3) (.cons (.var 4) (.cons .lnil .nil))))))) 2) (.cons (.app 27 (.cons (.var 0) .nil) 0) (.cons (.app 27 (.cons (.var 0) .nil) 1) (.cons (.app 27 (.cons (.var 0) .nil) 2) (.cons (.app 27 (.cons (.var 0) .nil) 3) .nil)))))))))))))
    (.ite (.bin .eq (.app 10801 (.cons (.var 0) (.cons (.t false) (.cons (.n 0) (.cons (.var 1) (.cons (.var 2) (.cons (.var 3) (.cons (.var 4) (.cons (.app 10800 (.cons (.var 0) (.cons (.bin (.sub .i64) (.un .len (.var 0)) (.n 1)) (.cons (.var 1) (.cons (.var 2) (.cons (.var 3) (.cons (.var 4) (.cons .lnil .nil))))))) 2) (.cons (.app 27 (.cons (.var 0) .nil) 0) (.cons (.app 27 (.cons (.var 0) .nil) 1) (.cons (.app 27 (.cons (.var 0) .nil) 2) (.cons (.app 27 (.cons (.var 0) .nil) 3) .nil)))))))))))) 0) (.n 0))
     (.ret (.cons (.app 10801 (.cons (.var 0) (.cons (.t false) (.cons (.n 0) (.cons (.var 1) (.cons (.var 2) (.cons (.var 3) (.cons (.var 4) (.cons (.app 10800 (.cons (.var 0) (.cons (.bin (.sub .i64) (.un .len (.var 0)) (.n 1)) (.cons (.var 1) (.cons (.var 2) (.cons (.var 3) (.cons (.var 4) (.cons .lnil .nil))))))) 2) (.cons (.app 27 (.cons (.var 0) .nil) 0) (.cons (.app 27 (.cons (.var 0) .nil) 1) (.cons (.app 27 (.cons (.var 0) .nil) 2) (.cons (.app 27 (.cons (.var 0) .nil) 3) .nil)))))))))))) 1) .nil))
     (.need (.t true) (.pre 27 (.cons .lnil .nil))
     (.need (.ite (.bin .eq (.app 27 (.cons .lnil .nil) 0) (.n 0)) (.ite (.bin .eq (.app 27 (.cons .lnil .nil) 1) (.n 0)) (.ite (.bin .eq (.app 27 (.cons .lnil .nil) 2) (.n 0)) (.bin .eq (.app 27 (.cons .lnil .nil) 3) (.n 0)) (.t false)) (.t false)) (.t false)) (.pre 15 .nil)
     (.ret (.cons (.ite (.ite (.bin .eq (.app 27 (.cons .lnil .nil) 0) (.n 0)) (.ite (.bin .eq (.app 27 (.cons .lnil .nil) 1) (.n 0)) (.ite (.bin .eq (.app 27 (.cons .lnil .nil) 2) (.n 0)) (.bin .eq (.app 27 (.cons .lnil .nil) 3) (.n 0)) (.t false)) (.t false)) (.t false)) (.app 15 .nil 0) (.t false)) .nil))))))))))))))
theorem e8 : fnVT Try.prog (sgOf sg8) (ltOf lt8) S8 Try.f8 c8 = vt8 := by kernel_rfl

end Go.Proofs.Yteajmcpjcbjolaa.rv
