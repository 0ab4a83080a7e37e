/-
  The functions of the program as they are run: printed by program.
-/
import Derived.Test.YtpbjlhgdgggmkaaRvUse
import Derived.Test.YtpbjlhgdgggmkaaChecked
namespace Go.Proofs.Ytpbjlhgdgggmkaa.rv
open Go.RV
set_option maxRecDepth 100000
theorem mixed : Try.prog.follows .mixedOrders = true := by kernel_rfl
/-! ### 18 -/
def S18 : Sig := ⟨[(false, [(.int .i64)])], [(false, [(.int .i64)])]⟩
noncomputable def c18 : Code := Try.f18.body.getD .skip
theorem b18 : Try.f18.body = some c18 := body_some (by kernel_rfl)
theorem n18 : (Try.f18.name == "runtime.NumGoroutine") = false := by kernel_rfl
def sg18 : List (FuncId × Sig) := []
def lt18 : List (Nat × LoopSig) := []
theorem k18 : (Code.loops c18).length = 0 := by kernel_rfl
def vt18 : VT :=
  (.ite (.bin .lt (.bin (.rem .i64) (.var 0) (.n 360)) (.n 0))
   (.ret (.cons (.bin (.add .i64) (.bin (.rem .i64) (.var 0) (.n 360)) (.n 360)) .nil))
   (.ret (.cons (.bin (.rem .i64) (.var 0) (.n 360)) .nil)))
theorem e18 : fnVT Try.prog (sgOf sg18) (ltOf lt18) S18 Try.f18 c18 = vt18 := by kernel_rfl
def T18 : FuncId → List D → List D := tabOf []
def fn18 (ρ : List D) : List D := vt18.val T18 ρ
theorem m18 : Meets Try.prog 18 S18 (fun _ => True) fn18 := meets_easy (sgl := sg18) (Φ := T18) mixed ((fun _ h => nomatch h)) Try.func18 b18 n18 k18 e18 (by kernel_rfl)

/-! ### 24 -/
def S24 : Sig := ⟨[], [(true, [(.int .i64), (.int .i64), (.int .i64), (.int .i64), (.int .i64), (.int .i64), (.int .i64), (.int .i64), (.int .i64), (.int .i64), (.int .i64), (.int .i64), (.int .i64), (.int .i64), (.int .i64), (.int .i64), (.int .i64), (.int .i64), (.int .i64), (.int .i64), (.int .i64), (.int .i64), (.int .i64), (.int .i64), (.int .i64), (.int .i64), (.int .i64), (.int .i64), (.int .i64), (.int .i64), (.int .i64), (.int .i64), (.int .i64), (.int .i64), (.int .i64), (.int .i64), (.int .i64), (.int .i64), (.int .i64), (.int .i64), (.int .i64), (.int .i64), (.int .i64), (.int .i64), (.int .i64), (.int .i64), (.int .i64), (.int .i64), (.int .i64), (.int .i64), (.int .i64), (.int .i64), (.int .i64), (.int .i64), (.int .i64), (.int .i64), (.int .i64), (.int .i64), (.int .i64), (.int .i64), (.int .i64), (.int .i64), (.int .i64), (.int .i64), (.int .i64), (.int .i64), (.int .i64), (.int .i64), (.int .i64), (.int .i64), (.int .i64), (.int .i64), (.int .i64), (.int .i64), (.int .i64), (.int .i64), (.int .i64), (.int .i64), (.int .i64), (.int .i64), (.int .i64), (.int .i64), (.int .i64), (.int .i64), (.int .i64), (.int .i64), (.int .i64), (.int .i64), (.int .i64), (.int .i64), (.int .i64)])]⟩
noncomputable def c24 : Code := Try.f24.body.getD .skip
theorem b24 : Try.f24.body = some c24 := body_some (by kernel_rfl)
theorem n24 : (Try.f24.name == "runtime.NumGoroutine") = false := by kernel_rfl
def sg24 : List (FuncId × Sig) := []
def lt24 : List (Nat × LoopSig) := []
theorem k24 : (Code.loops c24).length = 0 := by kernel_rfl
def vt24 : VT :=
  (.ret (.cons (.n 0) (.cons (.n 175) (.cons (.n 349) (.cons (.n 523) (.cons (.n 698) (.cons (.n 872) (.cons (.n 1045) (.cons (.n 1219) (.cons (.n 1392) (.cons (.n 1564) (.cons (.n 1736) (.cons (.n 1908) (.cons (.n 2079) (.cons (.n 2250) (.cons (.n 2419) (.cons (.n 2588) (.cons (.n 2756) (.cons (.n 2924) (.cons (.n 3090) (.cons (.n 3256) (.cons (.n 3420) (.cons (.n 3584) (.cons (.n 3746) (.cons (.n 3907) (.cons (.n 4067) (.cons (.n 4226) (.cons (.n 4384) (.cons (.n 4540) (.cons (.n 4695) (.cons (.n 4848) (.cons (.n 5000) (.cons (.n 5150) (.cons (.n 5299) (.cons (.n 5446) (.cons (.n 5592) (.cons (.n 5736) (.cons (.n 5878) (.cons (.n 6018) (.cons (.n 6157) (.cons (.n 6293) (.cons (.n 6428) (.cons (.n 6561) (.cons (.n 6691) (.cons (.n 6820) (.cons (.n 6947) (.cons (.n 7071) (.cons (.n 7193) (.cons (.n 7314) (.cons (.n 7431) (.cons (.n 7547) (.cons (.n 7660) (.cons (.n 7771) (.cons (.n 7880) (.cons (.n 7986) (.cons (.n 8090) (.cons (.n 8192) (.cons (.n 8290) (.cons (.n 8387) (.cons (.n 8480) (.cons (.n 8572) (.cons (.n 8660) (.cons (.n 8746) (.cons (.n 8829) (.cons (.n 8910) (.cons (.n 8988) (.cons (.n 9063) (.cons (.n 9135) (.cons (.n 9205) (.cons (.n 9272) (.cons (.n 9336) (.cons (.n 9397) (.cons (.n 9455) (.cons (.n 9511) (.cons (.n 9563) (.cons (.n 9613) (.cons (.n 9659) (.cons (.n 9703) (.cons (.n 9744) (.cons (.n 9781) (.cons (.n 9816) (.cons (.n 9848) (.cons (.n 9877) (.cons (.n 9903) (.cons (.n 9925) (.cons (.n 9945) (.cons (.n 9962) (.cons (.n 9976) (.cons (.n 9986) (.cons (.n 9994) (.cons (.n 9998) (.cons (.n 10000) .nil))))))))))))))))))))))))))))))))))))))))))))))))))))))))))))))))))))))))))))))))))))))))))))
theorem e24 : fnVT Try.prog (sgOf sg24) (ltOf lt24) S24 Try.f24 c24 = vt24 := by kernel_rfl
def T24 : FuncId → List D → List D := tabOf []
def fn24 (ρ : List D) : List D := vt24.val T24 ρ
theorem m24 : Meets Try.prog 24 S24 (fun _ => True) fn24 := meets_easy (sgl := sg24) (Φ := T24) mixed ((fun _ h => nomatch h)) Try.func24 b24 n24 k24 e24 (by kernel_rfl)

/-! ### 17 -/
def S17 : Sig := ⟨[(false, [(.int .i64)])], [(false, [(.int .i64)])]⟩
noncomputable def c17 : Code := Try.f17.body.getD .skip
theorem b17 : Try.f17.body = some c17 := body_some (by kernel_rfl)
theorem n17 : (Try.f17.name == "runtime.NumGoroutine") = false := by kernel_rfl
def sg17 : List (FuncId × Sig) := [(17, S17), (24, S24)]
def lt17 : List (Nat × LoopSig) := []
theorem k17 : (Code.loops c17).length = 0 := by kernel_rfl
def vt17 : VT :=
  (.ite (.bin .lt (.n 180) (.var 0))
   (.need (.t true) (.pre 17 (.cons (.bin (.sub .i64) (.var 0) (.n 180)) .nil))
   (.lt (.app 17 (.cons (.bin (.sub .i64) (.var 0) (.n 180)) .nil) 0) 1
   (.ret (.cons (.un (.neg .i64) (.var 1)) .nil))))
   (.need (.t true) (.pre 24 .nil)
   (.lt (.app 24 .nil 0) 91
   (.need (.t true) (.c (.bin .le (.n 0) (.bin .min (.var 0) (.bin (.sub .i64) (.n 180) (.var 0)))))
   (.need (.t true) (.c (.bin .lt (.bin .min (.var 0) (.bin (.sub .i64) (.n 180) (.var 0))) (.n 91)))
   (.ret (.cons (.nth (.cons (.var 1) (.cons (.var 2) (.cons (.var 3) (.cons (.var 4) (.cons (.var 5) (.cons (.var 6) (.cons (.var 7) (.cons (.var 8) (.cons (.var 9) (.cons (.var 10) (.cons (.var 11) (.cons (.var 12) (.cons (.var 13) (.cons (.var 14) (.cons (.var 15) (.cons (.var 16) (.cons (.var 17) (.cons (.var 18) (.cons (.var 19) (.cons (.var 20) (.cons (.var 21) (.cons (.var 22) (.cons (.var 23) (.cons (.var 24) (.cons (.var 25) (.cons (.var 26) (.cons (.var 27) (.cons (.var 28) (.cons (.var 29) (.cons (.var 30) (.cons (.var 31) (.cons (.var 32) (.cons (.var 33) (.cons (.var 34) (.cons (.var 35) (.cons (.var 36) (.cons (.var 37) (.cons (.var 38) (.cons (.var 39) (.cons (.var 40) (.cons (.var 41) (.cons (.var 42) (.cons (.var 43) (.cons (.var 44) (.cons (.var 45) (.cons (.var 46) (.cons (.var 47) (.cons (.var 48) (.cons (.var 49) (.cons (.var 50) (.cons (.var 51) (.cons (.var 52) (.cons (.var 53) (.cons (.var 54) (.cons (.var 55) (.cons (.var 56) (.cons (.var 57) (.cons (.var 58) (.cons (.var 59) (.cons (.var 60) (.cons (.var 61) (.cons (.var 62) (.cons (.var 63) (.cons (.var 64) (.cons (.var 65) (.cons (.var 66) (.cons (.var 67) (.cons (.var 68) (.cons (.var 69) (.cons (.var 70) (.cons (.var 71) (.cons (.var 72) (.cons (.var 73) (.cons (.var 74) (.cons (.var 75) (.cons (.var 76) (.cons (.var 77) (.cons (.var 78) (.cons (.var 79) (.cons (.var 80) (.cons (.var 81) (.cons (.var 82) (.cons (.var 83) (.cons (.var 84) (.cons (.var 85) (.cons (.var 86) (.cons (.var 87) (.cons (.var 88) (.cons (.var 89) (.cons (.var 90) (.cons (.var 91) .nil))))))))))))))))))))))))))))))))))))))))))))))))))))))))))))))))))))))))))))))))))))))))))) (.bin .min (.var 0) (.bin (.sub .i64) (.n 180) (.var 0)))) .nil)))))))
theorem e17 : fnVT Try.prog (sgOf sg17) (ltOf lt17) S17 Try.f17 c17 = vt17 := by kernel_rfl

/-! ### 8 -/
def S8 : Sig := ⟨[(false, [(.int .i64)])], [(false, [(.int .i64)])]⟩
noncomputable def c8 : Code := Try.f8.body.getD .skip
theorem b8 : Try.f8.body = some c8 := body_some (by kernel_rfl)
theorem n8 : (Try.f8.name == "runtime.NumGoroutine") = false := by kernel_rfl
def sg8 : List (FuncId × Sig) := [(18, S18), (17, S17)]
def lt8 : List (Nat × LoopSig) := []
theorem k8 : (Code.loops c8).length = 0 := by kernel_rfl
def vt8 : VT :=
  (.need (.t true) (.pre 18 (.cons (.var 0) .nil))
  (.lt (.app 18 (.cons (.var 0) .nil) 0) 1
  (.need (.t true) (.pre 17 (.cons (.var 1) .nil))
  (.lt (.app 17 (.cons (.var 1) .nil) 0) 1
  (.ret (.cons (.var 2) .nil))))))
theorem e8 : fnVT Try.prog (sgOf sg8) (ltOf lt8) S8 Try.f8 c8 = vt8 := by kernel_rfl

/-! ### 20 -/
def S20 : Sig := ⟨[(false, [(.int .i64)])], [(false, [(.int .i64)])]⟩
noncomputable def c20 : Code := Try.f20.body.getD .skip
theorem b20 : Try.f20.body = some c20 := body_some (by kernel_rfl)
theorem n20 : (Try.f20.name == "runtime.NumGoroutine") = false := by kernel_rfl
def sg20 : List (FuncId × Sig) := []
def lt20 : List (Nat × LoopSig) := []
theorem k20 : (Code.loops c20).length = 0 := by kernel_rfl
def vt20 : VT :=
  (.ret (.cons (.bin (.rem .i64) (.bin (.add .i64) (.bin (.rem .i64) (.var 0) (.n 360)) (.n 360)) (.n 360)) .nil))
theorem e20 : fnVT Try.prog (sgOf sg20) (ltOf lt20) S20 Try.f20 c20 = vt20 := by kernel_rfl
def T20 : FuncId → List D → List D := tabOf []
def fn20 (ρ : List D) : List D := vt20.val T20 ρ
theorem m20 : Meets Try.prog 20 S20 (fun _ => True) fn20 := meets_easy (sgl := sg20) (Φ := T20) mixed ((fun _ h => nomatch h)) Try.func20 b20 n20 k20 e20 (by kernel_rfl)

/-! ### 25 -/
def S25 : Sig := ⟨[(false, [(.int .i64)])], [(false, [(.int .i64)])]⟩
noncomputable def c25 : Code := Try.f25.body.getD .skip
theorem b25 : Try.f25.body = some c25 := body_some (by kernel_rfl)
theorem n25 : (Try.f25.name == "runtime.NumGoroutine") = false := by kernel_rfl
def sg25 : List (FuncId × Sig) := []
def lt25 : List (Nat × LoopSig) := []
theorem k25 : (Code.loops c25).length = 0 := by kernel_rfl
def vt25 : VT :=
  (.need (.t true) (.c (.bin .le (.n 0) (.var 0)))
  (.need (.t true) (.c (.bin .lt (.var 0) (.un .len (.lcons (.cons (.n 0) .nil) (.lcons (.cons (.n 175) .nil) (.lcons (.cons (.n 349) .nil) (.lcons (.cons (.n 523) .nil) (.lcons (.cons (.n 698) .nil) (.lcons (.cons (.n 872) .nil) (.lcons (.cons (.n 1045) .nil) (.lcons (.cons (.n 1219) .nil) (.lcons (.cons (.n 1392) .nil) (.lcons (.cons (.n 1564) .nil) (.lcons (.cons (.n 1736) .nil) (.lcons (.cons (.n 1908) .nil) (.lcons (.cons (.n 2079) .nil) (.lcons (.cons (.n 2250) .nil) (.lcons (.cons (.n 2419) .nil) (.lcons (.cons (.n 2588) .nil) (.lcons (.cons (.n 2756) .nil) (.lcons (.cons (.n 2924) .nil) (.lcons (.cons (.n 3090) .nil) (.lcons (.cons (.n 3256) .nil) (.lcons (.cons (.n 3420) .nil) (.lcons (.cons (.n 3584) .nil) (.lcons (.cons (.n 3746) .nil) (.lcons (.cons (.n 3907) .nil) (.lcons (.cons (.n 4067) .nil) (.lcons (.cons (.n 4226) .nil) (.lcons (.cons (.n 4384) .nil) (.lcons (.cons (.n 4540) .nil) (.lcons (.cons (.n 4695) .nil) (.lcons (.cons (.n 4848) .nil) (.lcons (.cons (.n 5000) .nil) (.lcons (.cons (.n 5150) .nil) (.lcons (.cons (.n 5299) .nil) (.lcons (.cons (.n 5446) .nil) (.lcons (.cons (.n 5592) .nil) (.lcons (.cons (.n 5736) .nil) (.lcons (.cons (.n 5878) .nil) (.lcons (.cons (.n 6018) .nil) (.lcons (.cons (.n 6157) .nil) (.lcons (.cons (.n 6293) .nil) (.lcons (.cons (.n 6428) .nil) (.lcons (.cons (.n 6561) .nil) (.lcons (.cons (.n 6691) .nil) (.lcons (.cons (.n 6820) .nil) (.lcons (.cons (.n 6947) .nil) (.lcons (.cons (.n 7071) .nil) (.lcons (.cons (.n 7193) .nil) (.lcons (.cons (.n 7314) .nil) (.lcons (.cons (.n 7431) .nil) (.lcons (.cons (.n 7547) .nil) (.lcons (.cons (.n 7660) .nil) (.lcons (.cons (.n 7771) .nil) (.lcons (.cons (.n 7880) .nil) (.lcons (.cons (.n 7986) .nil) (.lcons (.cons (.n 8090) .nil) (.lcons (.cons (.n 8192) .nil) (.lcons (.cons (.n 8290) .nil) (.lcons (.cons (.n 8387) .nil) (.lcons (.cons (.n 8480) .nil) (.lcons (.cons (.n 8572) .nil) (.lcons (.cons (.n 8660) .nil) (.lcons (.cons (.n 8746) .nil) (.lcons (.cons (.n 8829) .nil) (.lcons (.cons (.n 8910) .nil) (.lcons (.cons (.n 8988) .nil) (.lcons (.cons (.n 9063) .nil) (.lcons (.cons (.n 9135) .nil) (.lcons (.cons (.n 9205) .nil) (.lcons (.cons (.n 9272) .nil) (.lcons (.cons (.n 9336) .nil) (.lcons (.cons (.n 9397) .nil) (.lcons (.cons (.n 9455) .nil) (.lcons (.cons (.n 9511) .nil) (.lcons (.cons (.n 9563) .nil) (.lcons (.cons (.n 9613) .nil) (.lcons (.cons (.n 9659) .nil) (.lcons (.cons (.n 9703) .nil) (.lcons (.cons (.n 9744) .nil) (.lcons (.cons (.n 9781) .nil) (.lcons (.cons (.n 9816) .nil) (.lcons (.cons (.n 9848) .nil) (.lcons (.cons (.n 9877) .nil) (.lcons (.cons (.n 9903) .nil) (.lcons (.cons (.n 9925) .nil) (.lcons (.cons (.n 9945) .nil) (.lcons (.cons (.n 9962) .nil) (.lcons (.cons (.n 9976) .nil) (.lcons (.cons (.n 9986) .nil) (.lcons (.cons (.n 9994) .nil) (.lcons (.cons (.n 9998) .nil) (.lcons (.cons (.n 10000) .nil) .lnil))))))))))))))))))))))))))))))))))))))))))))))))))))))))))))))))))))))))))))))))))))))))))))))
  (.ret (.cons (.sel 0 (.lcons (.cons (.n 0) .nil) (.lcons (.cons (.n 175) .nil) (.lcons (.cons (.n 349) .nil) (.lcons (.cons (.n 523) .nil) (.lcons (.cons (.n 698) .nil) (.lcons (.cons (.n 872) .nil) (.lcons (.cons (.n 1045) .nil) (.lcons (.cons (.n 1219) .nil) (.lcons (.cons (.n 1392) .nil) (.lcons (.cons (.n 1564) .nil) (.lcons (.cons (.n 1736) .nil) (.lcons (.cons (.n 1908) .nil) (.lcons (.cons (.n 2079) .nil) (.lcons (.cons (.n 2250) .nil) (.lcons (.cons (.n 2419) .nil) (.lcons (.cons (.n 2588) .nil) (.lcons (.cons (.n 2756) .nil) (.lcons (.cons (.n 2924) .nil) (.lcons (.cons (.n 3090) .nil) (.lcons (.cons (.n 3256) .nil) (.lcons (.cons (.n 3420) .nil) (.lcons (.cons (.n 3584) .nil) (.lcons (.cons (.n 3746) .nil) (.lcons (.cons (.n 3907) .nil) (.lcons (.cons (.n 4067) .nil) (.lcons (.cons (.n 4226) .nil) (.lcons (.cons (.n 4384) .nil) (.lcons (.cons (.n 4540) .nil) (.lcons (.cons (.n 4695) .nil) (.lcons (.cons (.n 4848) .nil) (.lcons (.cons (.n 5000) .nil) (.lcons (.cons (.n 5150) .nil) (.lcons (.cons (.n 5299) .nil) (.lcons (.cons (.n 5446) .nil) (.lcons (.cons (.n 5592) .nil) (.lcons (.cons (.n 5736) .nil) (.lcons (.cons (.n 5878) .nil) (.lcons (.cons (.n 6018) .nil) (.lcons (.cons (.n 6157) .nil) (.lcons (.cons (.n 6293) .nil) (.lcons (.cons (.n 6428) .nil) (.lcons (.cons (.n 6561) .nil) (.lcons (.cons (.n 6691) .nil) (.lcons (.cons (.n 6820) .nil) (.lcons (.cons (.n 6947) .nil) (.lcons (.cons (.n 7071) .nil) (.lcons (.cons (.n 7193) .nil) (.lcons (.cons (.n 7314) .nil) (.lcons (.cons (.n 7431) .nil) (.lcons (.cons (.n 7547) .nil) (.lcons (.cons (.n 7660) .nil) (.lcons (.cons (.n 7771) .nil) (.lcons (.cons (.n 7880) .nil) (.lcons (.cons (.n 7986) .nil) (.lcons (.cons (.n 8090) .nil) (.lcons (.cons (.n 8192) .nil) (.lcons (.cons (.n 8290) .nil) (.lcons (.cons (.n 8387) .nil) (.lcons (.cons (.n 8480) .nil) (.lcons (.cons (.n 8572) .nil) (.lcons (.cons (.n 8660) .nil) (.lcons (.cons (.n 8746) .nil) (.lcons (.cons (.n 8829) .nil) (.lcons (.cons (.n 8910) .nil) (.lcons (.cons (.n 8988) .nil) (.lcons (.cons (.n 9063) .nil) (.lcons (.cons (.n 9135) .nil) (.lcons (.cons (.n 9205) .nil) (.lcons (.cons (.n 9272) .nil) (.lcons (.cons (.n 9336) .nil) (.lcons (.cons (.n 9397) .nil) (.lcons (.cons (.n 9455) .nil) (.lcons (.cons (.n 9511) .nil) (.lcons (.cons (.n 9563) .nil) (.lcons (.cons (.n 9613) .nil) (.lcons (.cons (.n 9659) .nil) (.lcons (.cons (.n 9703) .nil) (.lcons (.cons (.n 9744) .nil) (.lcons (.cons (.n 9781) .nil) (.lcons (.cons (.n 9816) .nil) (.lcons (.cons (.n 9848) .nil) (.lcons (.cons (.n 9877) .nil) (.lcons (.cons (.n 9903) .nil) (.lcons (.cons (.n 9925) .nil) (.lcons (.cons (.n 9945) .nil) (.lcons (.cons (.n 9962) .nil) (.lcons (.cons (.n 9976) .nil) (.lcons (.cons (.n 9986) .nil) (.lcons (.cons (.n 9994) .nil) (.lcons (.cons (.n 9998) .nil) (.lcons (.cons (.n 10000) .nil) .lnil))))))))))))))))))))))))))))))))))))))))))))))))))))))))))))))))))))))))))))))))))))))))))) (.var 0)) .nil))))
theorem e25 : fnVT Try.prog (sgOf sg25) (ltOf lt25) S25 Try.f25 c25 = vt25 := by kernel_rfl

/-! ### 19 -/
def S19 : Sig := ⟨[(false, [(.int .i64)])], [(false, [(.int .i64)])]⟩
noncomputable def c19 : Code := Try.f19.body.getD .skip
theorem b19 : Try.f19.body = some c19 := body_some (by kernel_rfl)
theorem n19 : (Try.f19.name == "runtime.NumGoroutine") = false := by kernel_rfl
def sg19 : List (FuncId × Sig) := [(19, S19), (25, S25)]
def lt19 : List (Nat × LoopSig) := []
theorem k19 : (Code.loops c19).length = 0 := by kernel_rfl
def vt19 : VT :=
  (.ite (.bin .lt (.n 180) (.var 0))
   (.need (.t true) (.pre 19 (.cons (.bin (.sub .i64) (.var 0) (.n 180)) .nil))
   (.lt (.app 19 (.cons (.bin (.sub .i64) (.var 0) (.n 180)) .nil) 0) 1
   (.ret (.cons (.un (.neg .i64) (.var 1)) .nil))))
   (.ite (.bin .lt (.n 90) (.var 0))
    (.need (.t true) (.pre 25 (.cons (.bin (.sub .i64) (.n 180) (.var 0)) .nil))
    (.lt (.app 25 (.cons (.bin (.sub .i64) (.n 180) (.var 0)) .nil) 0) 1
    (.ret (.cons (.var 1) .nil))))
    (.need (.t true) (.pre 25 (.cons (.var 0) .nil))
    (.lt (.app 25 (.cons (.var 0) .nil) 0) 1
    (.ret (.cons (.var 1) .nil))))))
theorem e19 : fnVT Try.prog (sgOf sg19) (ltOf lt19) S19 Try.f19 c19 = vt19 := by kernel_rfl

/-! ### 9 -/
def S9 : Sig := ⟨[(false, [(.int .i64)])], [(false, [(.int .i64)])]⟩
noncomputable def c9 : Code := Try.f9.body.getD .skip
theorem b9 : Try.f9.body = some c9 := body_some (by kernel_rfl)
theorem n9 : (Try.f9.name == "runtime.NumGoroutine") = false := by kernel_rfl
def sg9 : List (FuncId × Sig) := [(20, S20), (19, S19)]
def lt9 : List (Nat × LoopSig) := []
theorem k9 : (Code.loops c9).length = 0 := by kernel_rfl
def vt9 : VT :=
  (.need (.t true) (.pre 20 (.cons (.var 0) .nil))
  (.lt (.app 20 (.cons (.var 0) .nil) 0) 1
  (.need (.t true) (.pre 19 (.cons (.var 1) .nil))
  (.lt (.app 19 (.cons (.var 1) .nil) 0) 1
  (.ret (.cons (.var 2) .nil))))))
theorem e9 : fnVT Try.prog (sgOf sg9) (ltOf lt9) S9 Try.f9 c9 = vt9 := by kernel_rfl

/-! ### 10 -/
def S10 : Sig := ⟨[(false, [(.int .i64)])], [(false, [(.int .i64)])]⟩
noncomputable def c10 : Code := Try.f10.body.getD .skip
theorem b10 : Try.f10.body = some c10 := body_some (by kernel_rfl)
theorem n10 : (Try.f10.name == "runtime.NumGoroutine") = false := by kernel_rfl
def sg10 : List (FuncId × Sig) := [(18, S18), (17, S17)]
def lt10 : List (Nat × LoopSig) := []
theorem k10 : (Code.loops c10).length = 0 := by kernel_rfl
def vt10 : VT :=
  (.need (.t true) (.pre 18 (.cons (.var 0) .nil))
  (.lt (.app 18 (.cons (.var 0) .nil) 0) 1
  (.need (.t true) (.pre 18 (.cons (.bin (.add .i64) (.var 1) (.n 90)) .nil))
  (.lt (.app 18 (.cons (.bin (.add .i64) (.var 1) (.n 90)) .nil) 0) 1
  (.need (.t true) (.pre 17 (.cons (.var 2) .nil))
  (.lt (.app 17 (.cons (.var 2) .nil) 0) 1
  (.ret (.cons (.var 3) .nil))))))))
theorem e10 : fnVT Try.prog (sgOf sg10) (ltOf lt10) S10 Try.f10 c10 = vt10 := by kernel_rfl

/-! ### 11 -/
def S11 : Sig := ⟨[(false, [(.int .i64)])], [(false, [(.int .i64)])]⟩
noncomputable def c11 : Code := Try.f11.body.getD .skip
theorem b11 : Try.f11.body = some c11 := body_some (by kernel_rfl)
theorem n11 : (Try.f11.name == "runtime.NumGoroutine") = false := by kernel_rfl
def sg11 : List (FuncId × Sig) := [(20, S20), (19, S19)]
def lt11 : List (Nat × LoopSig) := []
theorem k11 : (Code.loops c11).length = 0 := by kernel_rfl
def vt11 : VT :=
  (.need (.t true) (.pre 20 (.cons (.var 0) .nil))
  (.lt (.app 20 (.cons (.var 0) .nil) 0) 1
  (.need (.t true) (.pre 20 (.cons (.bin (.add .i64) (.var 1) (.n 90)) .nil))
  (.lt (.app 20 (.cons (.bin (.add .i64) (.var 1) (.n 90)) .nil) 0) 1
  (.need (.t true) (.pre 19 (.cons (.var 2) .nil))
  (.lt (.app 19 (.cons (.var 2) .nil) 0) 1
  (.ret (.cons (.var 3) .nil))))))))
theorem e11 : fnVT Try.prog (sgOf sg11) (ltOf lt11) S11 Try.f11 c11 = vt11 := by kernel_rfl

/-! ### 21 -/
def S21 : Sig := ⟨[(true, [(.int .i64), (.int .i64)])], [(false, [.bool])]⟩
noncomputable def c21 : Code := Try.f21.body.getD .skip
theorem b21 : Try.f21.body = some c21 := body_some (by kernel_rfl)
theorem n21 : (Try.f21.name == "runtime.NumGoroutine") = false := by kernel_rfl
def sg21 : List (FuncId × Sig) := []
def lt21 : List (Nat × LoopSig) := []
theorem k21 : (Code.loops c21).length = 0 := by kernel_rfl
def vt21 : VT :=
  (.ret (.cons (.ite (.ite (.ite (.bin .le (.n (-268435456)) (.var 0)) (.bin .le (.var 0) (.n 268435456)) (.t false)) (.bin .le (.n (-268435456)) (.var 1)) (.t false)) (.bin .le (.var 1) (.n 268435456)) (.t false)) .nil))
theorem e21 : fnVT Try.prog (sgOf sg21) (ltOf lt21) S21 Try.f21 c21 = vt21 := by kernel_rfl
def T21 : FuncId → List D → List D := tabOf []
def fn21 (ρ : List D) : List D := vt21.val T21 ρ
theorem m21 : Meets Try.prog 21 S21 (fun _ => True) fn21 := meets_easy (sgl := sg21) (Φ := T21) mixed ((fun _ h => nomatch h)) Try.func21 b21 n21 k21 e21 (by kernel_rfl)

/-! ### 22 -/
def S22 : Sig := ⟨[(false, [(.int .i64)]), (false, [(.int .i64)])], [(false, [(.int .i64)])]⟩
noncomputable def c22 : Code := Try.f22.body.getD .skip
theorem b22 : Try.f22.body = some c22 := body_some (by kernel_rfl)
theorem n22 : (Try.f22.name == "runtime.NumGoroutine") = false := by kernel_rfl
def sg22 : List (FuncId × Sig) := []
def lt22 : List (Nat × LoopSig) := []
theorem k22 : (Code.loops c22).length = 0 := by kernel_rfl
def vt22 : VT :=
  (.ite (.bin .lt (.bin (.mul .i64) (.var 0) (.var 1)) (.n 0))
   (.ret (.cons (.un (.neg .i64) (.bin (.quo .i64) (.bin (.add .i64) (.un (.neg .i64) (.bin (.mul .i64) (.var 0) (.var 1))) (.n 5000)) (.n 10000))) .nil))
   (.ret (.cons (.bin (.quo .i64) (.bin (.add .i64) (.bin (.mul .i64) (.var 0) (.var 1)) (.n 5000)) (.n 10000)) .nil)))
theorem e22 : fnVT Try.prog (sgOf sg22) (ltOf lt22) S22 Try.f22 c22 = vt22 := by kernel_rfl
def T22 : FuncId → List D → List D := tabOf []
def fn22 (ρ : List D) : List D := vt22.val T22 ρ
theorem m22 : Meets Try.prog 22 S22 (fun _ => True) fn22 := meets_easy (sgl := sg22) (Φ := T22) mixed ((fun _ h => nomatch h)) Try.func22 b22 n22 k22 e22 (by kernel_rfl)

/-! ### 13 -/
def S13 : Sig := ⟨[(true, [(.int .i64), (.int .i64)]), (false, [(.int .i64)]), (false, [(.int .i64)])], [(true, [(.int .i64), (.int .i64)])]⟩
noncomputable def c13 : Code := Try.f13.body.getD .skip
theorem b13 : Try.f13.body = some c13 := body_some (by kernel_rfl)
theorem n13 : (Try.f13.name == "runtime.NumGoroutine") = false := by kernel_rfl
def sg13 : List (FuncId × Sig) := [(21, S21), (10, S10), (22, S22), (8, S8)]
def lt13 : List (Nat × LoopSig) := []
theorem k13 : (Code.loops c13).length = 0 := by kernel_rfl
def vt13 : VT :=
  (.need (.t true) (.pre 21 (.cons (.var 0) (.cons (.var 1) .nil)))
  (.lt (.app 21 (.cons (.var 0) (.cons (.var 1) .nil)) 0) 1
  (.ite (.ite (.ite (.un .not (.var 4)) (.t true) (.bin .lt (.var 2) (.n 0))) (.t true) (.bin .lt (.n 1048576) (.var 2)))
   (.ret (.cons (.n 0) (.cons (.n 0) .nil)))
   (.need (.t true) (.pre 10 (.cons (.var 3) .nil))
   (.lt (.app 10 (.cons (.var 3) .nil) 0) 1
   (.need (.t true) (.pre 22 (.cons (.var 2) (.cons (.var 5) .nil)))
   (.lt (.app 22 (.cons (.var 2) (.cons (.var 5) .nil)) 0) 1
   (.need (.t true) (.pre 8 (.cons (.var 3) .nil))
   (.lt (.app 8 (.cons (.var 3) .nil) 0) 1
   (.need (.t true) (.pre 22 (.cons (.var 2) (.cons (.var 7) .nil)))
   (.lt (.app 22 (.cons (.var 2) (.cons (.var 7) .nil)) 0) 1
   (.need (.t true) (.pre 21 (.cons (.bin (.add .i64) (.var 0) (.var 6)) (.cons (.bin (.add .i64) (.var 1) (.var 8)) .nil)))
   (.lt (.app 21 (.cons (.bin (.add .i64) (.var 0) (.var 6)) (.cons (.bin (.add .i64) (.var 1) (.var 8)) .nil)) 0) 1
   (.ite (.un .not (.var 9))
    (.ret (.cons (.n 0) (.cons (.n 0) .nil)))
    (.ret (.cons (.bin (.add .i64) (.var 0) (.var 6)) (.cons (.bin (.add .i64) (.var 1) (.var 8)) .nil)))))))))))))))))
theorem e13 : fnVT Try.prog (sgOf sg13) (ltOf lt13) S13 Try.f13 c13 = vt13 := by kernel_rfl

/-! ### 12 -/
def S12 : Sig := ⟨[], [(false, [.bool])]⟩
noncomputable def c12 : Code := Try.f12.body.getD .skip
theorem b12 : Try.f12.body = some c12 := body_some (by kernel_rfl)
theorem n12 : (Try.f12.name == "runtime.NumGoroutine") = false := by kernel_rfl
def sg12 : List (FuncId × Sig) := [(8, S8), (10, S10), (13, S13)]
def lt12 : List (Nat × LoopSig) := []
theorem k12 : (Code.loops c12).length = 0 := by kernel_rfl
def vt12 : VT :=
  (.need (.t true) (.pre 8 (.cons (.n 30) .nil))
  (.lt (.app 8 (.cons (.n 30) .nil) 0) 1
  (.need (.bin .eq (.var 0) (.n 5000)) (.pre 8 (.cons (.n (-90)) .nil))
  (.lt (.app 8 (.cons (.n (-90)) .nil) 0) 1
  (.need (.ite (.bin .eq (.var 0) (.n 5000)) (.bin .eq (.var 1) (.n (-10000))) (.t false)) (.pre 10 (.cons (.n 120) .nil))
  (.lt (.app 10 (.cons (.n 120) .nil) 0) 1
  (.need (.ite (.ite (.bin .eq (.var 0) (.n 5000)) (.bin .eq (.var 1) (.n (-10000))) (.t false)) (.bin .eq (.var 2) (.n (-5000))) (.t false)) (.pre 13 (.cons (.n 0) (.cons (.n 0) (.cons (.n 1000) (.cons (.n 30) .nil)))))
  (.lt (.app 13 (.cons (.n 0) (.cons (.n 0) (.cons (.n 1000) (.cons (.n 30) .nil)))) 0) 2
  (.need (.ite (.ite (.ite (.bin .eq (.var 0) (.n 5000)) (.bin .eq (.var 1) (.n (-10000))) (.t false)) (.bin .eq (.var 2) (.n (-5000))) (.t false)) (.ite (.bin .eq (.var 3) (.n 866)) (.bin .eq (.var 4) (.n 500)) (.t false)) (.t false)) (.pre 13 (.cons (.n 0) (.cons (.n 0) (.cons (.n 1000) (.cons (.n 90) .nil)))))
  (.lt (.app 13 (.cons (.n 0) (.cons (.n 0) (.cons (.n 1000) (.cons (.n 90) .nil)))) 0) 2
  (.ret (.cons (.ite (.ite (.ite (.ite (.bin .eq (.var 0) (.n 5000)) (.bin .eq (.var 1) (.n (-10000))) (.t false)) (.bin .eq (.var 2) (.n (-5000))) (.t false)) (.ite (.bin .eq (.var 3) (.n 866)) (.bin .eq (.var 4) (.n 500)) (.t false)) (.t false)) (.ite (.bin .eq (.var 5) (.n 0)) (.bin .eq (.var 6) (.n 1000)) (.t false)) (.t false)) .nil))))))))))))
theorem e12 : fnVT Try.prog (sgOf sg12) (ltOf lt12) S12 Try.f12 c12 = vt12 := by kernel_rfl

/-! ### 3 -/
def S3 : Sig := ⟨[(false, [(.int .i64)])], [(false, [.bool])]⟩
noncomputable def c3 : Code := Try.f3.body.getD .skip
theorem b3 : Try.f3.body = some c3 := body_some (by kernel_rfl)
theorem n3 : (Try.f3.name == "runtime.NumGoroutine") = false := by kernel_rfl
def sg3 : List (FuncId × Sig) := [(8, S8), (9, S9), (10, S10), (11, S11), (12, S12)]
def lt3 : List (Nat × LoopSig) := []
theorem k3 : (Code.loops c3).length = 0 := by kernel_rfl
def vt3 : VT :=
  (.need (.t true) (.pre 8 (.cons (.var 0) .nil))
  (.lt (.app 8 (.cons (.var 0) .nil) 0) 1
  (.need (.t true) (.pre 9 (.cons (.var 0) .nil))
  (.lt (.app 9 (.cons (.var 0) .nil) 0) 1
  (.need (.bin .eq (.var 1) (.var 2)) (.pre 10 (.cons (.var 0) .nil))
  (.lt (.app 10 (.cons (.var 0) .nil) 0) 1
  (.need (.bin .eq (.var 1) (.var 2)) (.pre 11 (.cons (.var 0) .nil))
  (.lt (.app 11 (.cons (.var 0) .nil) 0) 1
  (.need (.ite (.bin .eq (.var 1) (.var 2)) (.bin .eq (.var 3) (.var 4)) (.t false)) (.pre 12 .nil)
  (.lt (.app 12 .nil 0) 1
  (.ret (.cons (.ite (.ite (.bin .eq (.var 1) (.var 2)) (.bin .eq (.var 3) (.var 4)) (.t false)) (.var 5) (.t false)) .nil))))))))))))
theorem e3 : fnVT Try.prog (sgOf sg3) (ltOf lt3) S3 Try.f3 c3 = vt3 := by kernel_rfl

/-! ### 16 -/
def S16 : Sig := ⟨[(true, [(.int .i64), (.int .i64)])], [(false, [.bool])]⟩
noncomputable def c16 : Code := Try.f16.body.getD .skip
theorem b16 : Try.f16.body = some c16 := body_some (by kernel_rfl)
theorem n16 : (Try.f16.name == "runtime.NumGoroutine") = false := by kernel_rfl
def sg16 : List (FuncId × Sig) := []
def lt16 : List (Nat × LoopSig) := []
theorem k16 : (Code.loops c16).length = 0 := by kernel_rfl
def vt16 : VT :=
  (.ret (.cons (.ite (.ite (.ite (.bin .le (.n (-268435456)) (.var 0)) (.bin .le (.var 0) (.n 268435456)) (.t false)) (.bin .le (.n (-268435456)) (.var 1)) (.t false)) (.bin .le (.var 1) (.n 268435456)) (.t false)) .nil))
theorem e16 : fnVT Try.prog (sgOf sg16) (ltOf lt16) S16 Try.f16 c16 = vt16 := by kernel_rfl
def T16 : FuncId → List D → List D := tabOf []
def fn16 (ρ : List D) : List D := vt16.val T16 ρ
theorem m16 : Meets Try.prog 16 S16 (fun _ => True) fn16 := meets_easy (sgl := sg16) (Φ := T16) mixed ((fun _ h => nomatch h)) Try.func16 b16 n16 k16 e16 (by kernel_rfl)

/-! ### 23 -/
def S23 : Sig := ⟨[(false, [(.int .i64)]), (false, [(.int .i64)])], [(false, [(.int .i64)])]⟩
noncomputable def c23 : Code := Try.f23.body.getD .skip
theorem b23 : Try.f23.body = some c23 := body_some (by kernel_rfl)
theorem n23 : (Try.f23.name == "runtime.NumGoroutine") = false := by kernel_rfl
def sg23 : List (FuncId × Sig) := [(23, S23)]
def lt23 : List (Nat × LoopSig) := []
theorem k23 : (Code.loops c23).length = 0 := by kernel_rfl
def vt23 : VT :=
  (.ite (.bin .lt (.var 1) (.n 0))
   (.need (.t true) (.pre 23 (.cons (.var 0) (.cons (.un (.neg .i64) (.var 1)) .nil)))
   (.lt (.app 23 (.cons (.var 0) (.cons (.un (.neg .i64) (.var 1)) .nil)) 0) 1
   (.ret (.cons (.un (.neg .i64) (.var 2)) .nil))))
   (.ret (.cons (.bin (.quo .i64) (.bin (.add .i64) (.bin (.mul .i64) (.var 0) (.var 1)) (.n 5000)) (.n 10000)) .nil)))
theorem e23 : fnVT Try.prog (sgOf sg23) (ltOf lt23) S23 Try.f23 c23 = vt23 := by kernel_rfl

/-! ### 14 -/
def S14 : Sig := ⟨[(true, [(.int .i64), (.int .i64)]), (false, [(.int .i64)]), (false, [(.int .i64)])], [(true, [(.int .i64), (.int .i64)])]⟩
noncomputable def c14 : Code := Try.f14.body.getD .skip
theorem b14 : Try.f14.body = some c14 := body_some (by kernel_rfl)
theorem n14 : (Try.f14.name == "runtime.NumGoroutine") = false := by kernel_rfl
def sg14 : List (FuncId × Sig) := [(16, S16), (11, S11), (23, S23), (9, S9)]
def lt14 : List (Nat × LoopSig) := []
theorem k14 : (Code.loops c14).length = 0 := by kernel_rfl
def vt14 : VT :=
  (.need (.t true) (.pre 16 (.cons (.var 0) (.cons (.var 1) .nil)))
  (.lt (.app 16 (.cons (.var 0) (.cons (.var 1) .nil)) 0) 1
  (.ite (.ite (.ite (.un .not (.var 4)) (.t true) (.bin .lt (.var 2) (.n 0))) (.t true) (.bin .lt (.n 1048576) (.var 2)))
   (.ret (.cons (.n 0) (.cons (.n 0) .nil)))
   (.need (.t true) (.pre 11 (.cons (.var 3) .nil))
   (.lt (.app 11 (.cons (.var 3) .nil) 0) 1
   (.need (.t true) (.pre 23 (.cons (.var 2) (.cons (.var 5) .nil)))
   (.lt (.app 23 (.cons (.var 2) (.cons (.var 5) .nil)) 0) 1
   (.need (.t true) (.pre 9 (.cons (.var 3) .nil))
   (.lt (.app 9 (.cons (.var 3) .nil) 0) 1
   (.need (.t true) (.pre 23 (.cons (.var 2) (.cons (.var 7) .nil)))
   (.lt (.app 23 (.cons (.var 2) (.cons (.var 7) .nil)) 0) 1
   (.need (.t true) (.pre 16 (.cons (.bin (.add .i64) (.var 0) (.var 6)) (.cons (.bin (.add .i64) (.var 1) (.var 8)) .nil)))
   (.lt (.app 16 (.cons (.bin (.add .i64) (.var 0) (.var 6)) (.cons (.bin (.add .i64) (.var 1) (.var 8)) .nil)) 0) 1
   (.ite (.un .not (.var 9))
    (.ret (.cons (.n 0) (.cons (.n 0) .nil)))
    (.ret (.cons (.bin (.add .i64) (.var 0) (.var 6)) (.cons (.bin (.add .i64) (.var 1) (.var 8)) .nil)))))))))))))))))
theorem e14 : fnVT Try.prog (sgOf sg14) (ltOf lt14) S14 Try.f14 c14 = vt14 := by kernel_rfl

/-! ### 4 -/
def S4 : Sig := ⟨[(true, [(.int .i64), (.int .i64)]), (false, [(.int .i64)]), (false, [(.int .i64)])], [(false, [.bool])]⟩
noncomputable def c4 : Code := Try.f4.body.getD .skip
theorem b4 : Try.f4.body = some c4 := body_some (by kernel_rfl)
theorem n4 : (Try.f4.name == "runtime.NumGoroutine") = false := by kernel_rfl
def sg4 : List (FuncId × Sig) := [(13, S13), (14, S14), (12, S12)]
def lt4 : List (Nat × LoopSig) := []
theorem k4 : (Code.loops c4).length = 0 := by kernel_rfl
def vt4 : VT :=
  (.need (.t true) (.pre 13 (.cons (.var 0) (.cons (.var 1) (.cons (.var 2) (.cons (.var 3) .nil)))))
  (.lt (.app 13 (.cons (.var 0) (.cons (.var 1) (.cons (.var 2) (.cons (.var 3) .nil)))) 0) 2
  (.need (.t true) (.pre 14 (.cons (.var 0) (.cons (.var 1) (.cons (.var 2) (.cons (.var 3) .nil)))))
  (.lt (.app 14 (.cons (.var 0) (.cons (.var 1) (.cons (.var 2) (.cons (.var 3) .nil)))) 0) 2
  (.need (.ite (.bin .eq (.var 4) (.var 6)) (.bin .eq (.var 5) (.var 7)) (.t false)) (.pre 12 .nil)
  (.lt (.app 12 .nil 0) 1
  (.ret (.cons (.ite (.ite (.bin .eq (.var 4) (.var 6)) (.bin .eq (.var 5) (.var 7)) (.t false)) (.var 8) (.t false)) .nil))))))))
theorem e4 : fnVT Try.prog (sgOf sg4) (ltOf lt4) S4 Try.f4 c4 = vt4 := by kernel_rfl

/-! ### 15 -/
def S15 : Sig := ⟨[(false, [(.int .i64)])], [(false, [(.int .i64)])]⟩
noncomputable def c15 : Code := Try.f15.body.getD .skip
theorem b15 : Try.f15.body = some c15 := body_some (by kernel_rfl)
theorem n15 : (Try.f15.name == "runtime.NumGoroutine") = false := by kernel_rfl
def sg15 : List (FuncId × Sig) := []
def lt15 : List (Nat × LoopSig) := []
theorem k15 : (Code.loops c15).length = 0 := by kernel_rfl
def vt15 : VT :=
  (.ite (.bin .lt (.var 0) (.n 0))
   (.ret (.cons (.un (.neg .i64) (.var 0)) .nil))
   (.ret (.cons (.var 0) .nil)))
theorem e15 : fnVT Try.prog (sgOf sg15) (ltOf lt15) S15 Try.f15 c15 = vt15 := by kernel_rfl
def T15 : FuncId → List D → List D := tabOf []
def fn15 (ρ : List D) : List D := vt15.val T15 ρ
theorem m15 : Meets Try.prog 15 S15 (fun _ => True) fn15 := meets_easy (sgl := sg15) (Φ := T15) mixed ((fun _ h => nomatch h)) Try.func15 b15 n15 k15 e15 (by kernel_rfl)

/-! ### 5 -/
def S5 : Sig := ⟨[(false, [(.int .i64)])], [(false, [.bool])]⟩
noncomputable def c5 : Code := Try.f5.body.getD .skip
theorem b5 : Try.f5.body = some c5 := body_some (by kernel_rfl)
theorem n5 : (Try.f5.name == "runtime.NumGoroutine") = false := by kernel_rfl
def sg5 : List (FuncId × Sig) := [(8, S8), (10, S10), (15, S15), (12, S12)]
def lt5 : List (Nat × LoopSig) := []
theorem k5 : (Code.loops c5).length = 0 := by kernel_rfl
def vt5 : VT :=
  (.need (.t true) (.pre 8 (.cons (.var 0) .nil))
  (.lt (.app 8 (.cons (.var 0) .nil) 0) 1
  (.need (.t true) (.pre 10 (.cons (.var 0) .nil))
  (.lt (.app 10 (.cons (.var 0) .nil) 0) 1
  (.ite (.ite (.bin .lt (.var 0) (.n (-1099511627776))) (.t true) (.bin .lt (.n 1099511627776) (.var 0)))
   (.need (.t true) (.pre 15 (.cons (.bin (.sub .i64) (.bin (.add .i64) (.bin (.mul .i64) (.var 1) (.var 1)) (.bin (.mul .i64) (.var 2) (.var 2))) (.n 100000000)) .nil))
   (.lt (.app 15 (.cons (.bin (.sub .i64) (.bin (.add .i64) (.bin (.mul .i64) (.var 1) (.var 1)) (.bin (.mul .i64) (.var 2) (.var 2))) (.n 100000000)) .nil) 0) 1
   (.need (.bin .le (.var 3) (.n 15000)) (.pre 12 .nil)
   (.lt (.app 12 .nil 0) 1
   (.ret (.cons (.ite (.bin .le (.var 3) (.n 15000)) (.var 4) (.t false)) .nil))))))
   (.need (.t true) (.pre 8 (.cons (.un (.neg .i64) (.var 0)) .nil))
   (.lt (.app 8 (.cons (.un (.neg .i64) (.var 0)) .nil) 0) 1
   (.need (.bin .eq (.var 3) (.un (.neg .i64) (.var 1))) (.pre 10 (.cons (.un (.neg .i64) (.var 0)) .nil))
   (.lt (.app 10 (.cons (.un (.neg .i64) (.var 0)) .nil) 0) 1
   (.need (.ite (.bin .eq (.var 3) (.un (.neg .i64) (.var 1))) (.bin .eq (.var 4) (.var 2)) (.t false)) (.pre 8 (.cons (.bin (.add .i64) (.var 0) (.n 180)) .nil))
   (.lt (.app 8 (.cons (.bin (.add .i64) (.var 0) (.n 180)) .nil) 0) 1
   (.need (.ite (.ite (.bin .eq (.var 3) (.un (.neg .i64) (.var 1))) (.bin .eq (.var 4) (.var 2)) (.t false)) (.bin .eq (.var 5) (.un (.neg .i64) (.var 1))) (.t false)) (.pre 10 (.cons (.bin (.add .i64) (.var 0) (.n 180)) .nil))
   (.lt (.app 10 (.cons (.bin (.add .i64) (.var 0) (.n 180)) .nil) 0) 1
   (.need (.ite (.ite (.ite (.bin .eq (.var 3) (.un (.neg .i64) (.var 1))) (.bin .eq (.var 4) (.var 2)) (.t false)) (.bin .eq (.var 5) (.un (.neg .i64) (.var 1))) (.t false)) (.bin .eq (.var 6) (.un (.neg .i64) (.var 2))) (.t false)) (.pre 8 (.cons (.bin (.add .i64) (.var 0) (.n 90)) .nil))
   (.lt (.app 8 (.cons (.bin (.add .i64) (.var 0) (.n 90)) .nil) 0) 1
   (.need (.ite (.ite (.ite (.ite (.bin .eq (.var 3) (.un (.neg .i64) (.var 1))) (.bin .eq (.var 4) (.var 2)) (.t false)) (.bin .eq (.var 5) (.un (.neg .i64) (.var 1))) (.t false)) (.bin .eq (.var 6) (.un (.neg .i64) (.var 2))) (.t false)) (.bin .eq (.var 7) (.var 2)) (.t false)) (.pre 15 (.cons (.bin (.sub .i64) (.bin (.add .i64) (.bin (.mul .i64) (.var 1) (.var 1)) (.bin (.mul .i64) (.var 2) (.var 2))) (.n 100000000)) .nil))
   (.lt (.app 15 (.cons (.bin (.sub .i64) (.bin (.add .i64) (.bin (.mul .i64) (.var 1) (.var 1)) (.bin (.mul .i64) (.var 2) (.var 2))) (.n 100000000)) .nil) 0) 1
   (.need (.ite (.ite (.ite (.ite (.ite (.bin .eq (.var 3) (.un (.neg .i64) (.var 1))) (.bin .eq (.var 4) (.var 2)) (.t false)) (.bin .eq (.var 5) (.un (.neg .i64) (.var 1))) (.t false)) (.bin .eq (.var 6) (.un (.neg .i64) (.var 2))) (.t false)) (.bin .eq (.var 7) (.var 2)) (.t false)) (.bin .le (.var 8) (.n 15000)) (.t false)) (.pre 12 .nil)
   (.lt (.app 12 .nil 0) 1
   (.ret (.cons (.ite (.ite (.ite (.ite (.ite (.ite (.bin .eq (.var 3) (.un (.neg .i64) (.var 1))) (.bin .eq (.var 4) (.var 2)) (.t false)) (.bin .eq (.var 5) (.un (.neg .i64) (.var 1))) (.t false)) (.bin .eq (.var 6) (.un (.neg .i64) (.var 2))) (.t false)) (.bin .eq (.var 7) (.var 2)) (.t false)) (.bin .le (.var 8) (.n 15000)) (.t false)) (.var 9) (.t false)) .nil)))))))))))))))))))))
theorem e5 : fnVT Try.prog (sgOf sg5) (ltOf lt5) S5 Try.f5 c5 = vt5 := by kernel_rfl

/-! ### 6 -/
def S6 : Sig := ⟨[(true, [(.int .i64), (.int .i64)]), (false, [(.int .i64)]), (false, [(.int .i64)])], [(false, [.bool])]⟩
noncomputable def c6 : Code := Try.f6.body.getD .skip
theorem b6 : Try.f6.body = some c6 := body_some (by kernel_rfl)
theorem n6 : (Try.f6.name == "runtime.NumGoroutine") = false := by kernel_rfl
def sg6 : List (FuncId × Sig) := [(15, S15), (12, S12), (13, S13), (16, S16)]
def lt6 : List (Nat × LoopSig) := []
theorem k6 : (Code.loops c6).length = 0 := by kernel_rfl
def vt6 : VT :=
  (.need (.t true) (.pre 15 (.cons (.var 0) .nil))
  (.lt (.app 15 (.cons (.var 0) .nil) 0) 1
  (.need (.un .not (.bin .lt (.n 1048576) (.var 4))) (.pre 15 (.cons (.var 1) .nil))
  (.lt (.app 15 (.cons (.var 1) .nil) 0) 1
  (.ite (.ite (.ite (.ite (.ite (.ite (.ite (.ite (.bin .lt (.n 1048576) (.var 4)) (.t true) (.bin .lt (.n 1048576) (.var 5))) (.t true) (.bin .lt (.var 0) (.n (-1099511627776)))) (.t true) (.bin .lt (.var 1) (.n (-1099511627776)))) (.t true) (.bin .lt (.var 2) (.n 0))) (.t true) (.bin .lt (.n 1048576) (.var 2))) (.t true) (.bin .lt (.var 3) (.n (-1099511627776)))) (.t true) (.bin .lt (.n 1099511627776) (.var 3)))
   (.need (.t true) (.pre 12 .nil)
   (.lt (.app 12 .nil 0) 1
   (.ret (.cons (.var 6) .nil))))
   (.need (.t true) (.pre 13 (.cons (.var 0) (.cons (.var 1) (.cons (.var 2) (.cons (.var 3) .nil)))))
   (.lt (.app 13 (.cons (.var 0) (.cons (.var 1) (.cons (.var 2) (.cons (.var 3) .nil)))) 0) 2
   (.need (.t true) (.pre 13 (.cons (.var 0) (.cons (.var 1) (.cons (.var 2) (.cons (.bin (.add .i64) (.var 3) (.n 180)) .nil)))))
   (.lt (.app 13 (.cons (.var 0) (.cons (.var 1) (.cons (.var 2) (.cons (.bin (.add .i64) (.var 3) (.n 180)) .nil)))) 0) 2
   (.need (.ite (.bin .eq (.bin (.add .i64) (.var 6) (.var 8)) (.bin (.mul .i64) (.n 2) (.var 0))) (.bin .eq (.bin (.add .i64) (.var 7) (.var 9)) (.bin (.mul .i64) (.n 2) (.var 1))) (.t false)) (.pre 16 (.cons (.var 6) (.cons (.var 7) .nil)))
   (.lt (.app 16 (.cons (.var 6) (.cons (.var 7) .nil)) 0) 1
   (.need (.ite (.ite (.bin .eq (.bin (.add .i64) (.var 6) (.var 8)) (.bin (.mul .i64) (.n 2) (.var 0))) (.bin .eq (.bin (.add .i64) (.var 7) (.var 9)) (.bin (.mul .i64) (.n 2) (.var 1))) (.t false)) (.var 10) (.t false)) (.pre 12 .nil)
   (.lt (.app 12 .nil 0) 1
   (.ret (.cons (.ite (.ite (.ite (.bin .eq (.bin (.add .i64) (.var 6) (.var 8)) (.bin (.mul .i64) (.n 2) (.var 0))) (.bin .eq (.bin (.add .i64) (.var 7) (.var 9)) (.bin (.mul .i64) (.n 2) (.var 1))) (.t false)) (.var 10) (.t false)) (.var 11) (.t false)) .nil)))))))))))))))
theorem e6 : fnVT Try.prog (sgOf sg6) (ltOf lt6) S6 Try.f6 c6 = vt6 := by kernel_rfl

/-! ### 7 -/
def S7 : Sig := ⟨[(true, [(.int .i64), (.int .i64)]), (false, [(.int .i64)]), (false, [(.int .i64)]), (false, [(.int .i64)])], [(false, [.bool])]⟩
noncomputable def c7 : Code := Try.f7.body.getD .skip
theorem b7 : Try.f7.body = some c7 := body_some (by kernel_rfl)
theorem n7 : (Try.f7.name == "runtime.NumGoroutine") = false := by kernel_rfl
def sg7 : List (FuncId × Sig) := [(12, S12), (13, S13), (15, S15)]
def lt7 : List (Nat × LoopSig) := []
theorem k7 : (Code.loops c7).length = 0 := by kernel_rfl
def vt7 : VT :=
  (.ite (.ite (.ite (.ite (.ite (.ite (.ite (.bin .lt (.var 0) (.n (-1048576))) (.t true) (.bin .lt (.n 1048576) (.var 0))) (.t true) (.bin .lt (.var 1) (.n (-1048576)))) (.t true) (.bin .lt (.n 1048576) (.var 1))) (.t true) (.bin .lt (.var 2) (.n 0))) (.t true) (.bin .lt (.var 3) (.var 2))) (.t true) (.bin .lt (.n 1048576) (.var 3)))
   (.need (.t true) (.pre 12 .nil)
   (.lt (.app 12 .nil 0) 1
   (.ret (.cons (.var 5) .nil))))
   (.need (.t true) (.pre 13 (.cons (.var 0) (.cons (.var 1) (.cons (.var 2) (.cons (.var 4) .nil)))))
   (.lt (.app 13 (.cons (.var 0) (.cons (.var 1) (.cons (.var 2) (.cons (.var 4) .nil)))) 0) 2
   (.need (.t true) (.pre 13 (.cons (.var 0) (.cons (.var 1) (.cons (.var 3) (.cons (.var 4) .nil)))))
   (.lt (.app 13 (.cons (.var 0) (.cons (.var 1) (.cons (.var 3) (.cons (.var 4) .nil)))) 0) 2
   (.need (.t true) (.pre 15 (.cons (.bin (.sub .i64) (.var 5) (.var 0)) .nil))
   (.lt (.app 15 (.cons (.bin (.sub .i64) (.var 5) (.var 0)) .nil) 0) 1
   (.need (.t true) (.pre 15 (.cons (.bin (.sub .i64) (.var 7) (.var 0)) .nil))
   (.lt (.app 15 (.cons (.bin (.sub .i64) (.var 7) (.var 0)) .nil) 0) 1
   (.need (.bin .le (.var 9) (.var 10)) (.pre 15 (.cons (.bin (.sub .i64) (.var 6) (.var 1)) .nil))
   (.lt (.app 15 (.cons (.bin (.sub .i64) (.var 6) (.var 1)) .nil) 0) 1
   (.need (.bin .le (.var 9) (.var 10)) (.pre 15 (.cons (.bin (.sub .i64) (.var 8) (.var 1)) .nil))
   (.lt (.app 15 (.cons (.bin (.sub .i64) (.var 8) (.var 1)) .nil) 0) 1
   (.need (.ite (.bin .le (.var 9) (.var 10)) (.bin .le (.var 11) (.var 12)) (.t false)) (.pre 15 (.cons (.bin (.sub .i64) (.var 7) (.var 0)) .nil))
   (.lt (.app 15 (.cons (.bin (.sub .i64) (.var 7) (.var 0)) .nil) 0) 1
   (.need (.ite (.ite (.bin .le (.var 9) (.var 10)) (.bin .le (.var 11) (.var 12)) (.t false)) (.bin .le (.var 10) (.var 3)) (.t false)) (.pre 15 (.cons (.bin (.sub .i64) (.var 8) (.var 1)) .nil))
   (.lt (.app 15 (.cons (.bin (.sub .i64) (.var 8) (.var 1)) .nil) 0) 1
   (.need (.ite (.ite (.ite (.bin .le (.var 9) (.var 10)) (.bin .le (.var 11) (.var 12)) (.t false)) (.bin .le (.var 10) (.var 3)) (.t false)) (.bin .le (.var 12) (.var 3)) (.t false)) (.pre 12 .nil)
   (.lt (.app 12 .nil 0) 1
   (.ret (.cons (.ite (.ite (.ite (.ite (.bin .le (.var 9) (.var 10)) (.bin .le (.var 11) (.var 12)) (.t false)) (.bin .le (.var 10) (.var 3)) (.t false)) (.bin .le (.var 12) (.var 3)) (.t false)) (.var 15) (.t false)) .nil)))))))))))))))))))))
theorem e7 : fnVT Try.prog (sgOf sg7) (ltOf lt7) S7 Try.f7 c7 = vt7 := by kernel_rfl

end Go.Proofs.Ytpbjlhgdgggmkaa.rv
