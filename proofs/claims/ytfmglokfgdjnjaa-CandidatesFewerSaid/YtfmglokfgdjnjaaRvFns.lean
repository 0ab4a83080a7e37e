/-
  The functions of the program as they are run: printed by program.
-/
import Derived.Test.YtfmglokfgdjnjaaRvUse
import Derived.Test.YtfmglokfgdjnjaaRvPfn
import Derived.Test.YtfmglokfgdjnjaaChecked
namespace Go.Proofs.Ytfmglokfgdjnjaa.rv
open Go.RV
set_option maxRecDepth 100000
theorem mixed : Try.prog.follows .mixedOrders = true := by kernel_rfl
/-! ### function values -/
def S20024 : Sig := ⟨[(false, [.clo]), (true, [(.int .i64), (.int .i64), (.int .i64), (.int .i64)])], [(false, [.bool])], [], none⟩
def S20004 : Sig := ⟨[(false, [.clo]), (false, [(.int .i64)])], [(false, [.bool])], [], none⟩
def S20046 : Sig := ⟨[(false, [.clo]), (true, [(.int .i64), (.int .i64)])], [(false, [.bool])], [], none⟩
/-! ### 35 -/
def S35 : Sig := ⟨[(true, [(.int .i64), (.int .i64)])], [(false, [.bool])], [], none⟩
noncomputable def c35 : Code := Try.f35.body.getD .skip
theorem b35 : Try.f35.body = some c35 := body_some (by kernel_rfl)
theorem n35 : (Try.f35.name == "runtime.NumGoroutine") = false := by kernel_rfl
def sg35 : List (FuncId × Sig) := []
def lt35 : List (Nat × LoopSig) := []
theorem k35 : (Code.loops c35).length = 0 := by kernel_rfl
def vt35 : VT :=
  (.ret (.cons (.ite (.ite (.ite (.bin .le (.n (-268435456)) (.var 0)) (.bin .le (.var 0) (.n 268435456)) (.t false)) (.bin .le (.n (-268435456)) (.var 1)) (.t false)) (.bin .le (.var 1) (.n 268435456)) (.t false)) .nil))
theorem e35 : (fnVT Try.prog (sgOf sg35) (ltOf lt35) S35 Try.f35 c35).slim (S35.ps.map fun p => p.2.length).sum [] = vt35 := by kernel_rfl
def T35 : FuncId → List D → List D := tabOf []
def fn35 (ρ : List D) : List D := vt35.val T35 ρ
theorem m35 : Meets Try.prog 35 S35 (fun _ => True) fn35 := meets_easy (sgl := sg35) (Φ := T35) mixed ((fun _ h => nomatch h)) Try.func35 b35 n35 k35 e35 (by kernel_rfl)

/-! ### 21 -/
def S21 : Sig := ⟨[(true, [(.int .i64), (.int .i64), (.int .i64), (.int .i64)])], [(false, [.bool])], [], none⟩
noncomputable def c21 : Code := Try.f21.body.getD .skip
theorem b21 : Try.f21.body = some c21 := body_some (by kernel_rfl)
theorem n21 : (Try.f21.name == "runtime.NumGoroutine") = false := by kernel_rfl
def sg21 : List (FuncId × Sig) := [(35, S35)]
def lt21 : List (Nat × LoopSig) := []
theorem k21 : (Code.loops c21).length = 0 := by kernel_rfl
def vt21 : VT :=
  (.need (.t true) (.pre 35 (.cons (.var 0) (.cons (.var 1) .nil)))
  (.lt (.app 35 (.cons (.var 0) (.cons (.var 1) .nil)) 0) 1
  (.need (.var 4) (.pre 35 (.cons (.var 2) (.cons (.var 3) .nil)))
  (.lt (.app 35 (.cons (.var 2) (.cons (.var 3) .nil)) 0) 1
  (.ret (.cons (.ite (.ite (.ite (.var 4) (.var 5) (.t false)) (.bin .le (.var 0) (.var 2)) (.t false)) (.bin .le (.var 1) (.var 3)) (.t false)) .nil))))))
theorem e21 : (fnVT Try.prog (sgOf sg21) (ltOf lt21) S21 Try.f21 c21).slim (S21.ps.map fun p => p.2.length).sum [] = vt21 := by kernel_rfl
def T21 : FuncId → List D → List D := tabOf [(35, fn35)]
def fn21 (ρ : List D) : List D := vt21.val T21 ρ
theorem m21 : Meets Try.prog 21 S21 (fun _ => True) fn21 := meets_easy (sgl := sg21) (Φ := T21) mixed (List.forall_mem_cons.2 ⟨m35, (fun _ h => nomatch h)⟩) Try.func21 b21 n21 k21 e21 (by kernel_rfl)

/-! ### 43 -/
def S43 : Sig := ⟨[(false, [(.sl 3 [(.int .i64)])]), (false, [.clo])], [(false, [(.int .i64)])], [], none⟩
noncomputable def c43 : Code := Try.f43.body.getD .skip
theorem b43 : Try.f43.body = some c43 := body_some (by kernel_rfl)
theorem n43 : (Try.f43.name == "runtime.NumGoroutine") = false := by kernel_rfl
def sg43 : List (FuncId × Sig) := [(20004, S20004)]
def L43_0 : LoopSig := ⟨14300, [],
   ⟨[(.c (.x (.sl 3 [(.int .i64)]) (.var 0))), (.c (.x .clo (.var 1))), .any, .any, (.c (.x (.int .i64) (.var 2))), .any, .any, (.c (.x (.int .i64) (.var 3))), (.c (.x (.int .i64) (.var 4))), .any, .any, .any, .any, .any, .any, .any, .any, .any, .any],
    []⟩,
   5, [2, 4], [9, 10, 5, 11, 12, 13, 14, 15, 16, 17, 4, 18, 8], [.ret, (.exit 0)]⟩
def lt43 : List (Nat × LoopSig) := [(2, L43_0)]
theorem k43 : (Code.loops c43).length = 1 := by kernel_rfl
noncomputable def lb43_0 : Code := (Code.loops c43).getD 0 .skip
def rt43_0 : VT :=
  (.ite (.bin .lt (.var 4) (.var 3))
   (.need (.t true) (.c (.bin .le (.n 0) (.var 4)))
   (.need (.t true) (.c (.bin .lt (.var 4) (.un .len (.var 0))))
   (.need (.t true) (.pre 20004 (.cons (.var 1) (.cons (.sel 0 (.var 0) (.var 4)) .nil)))
   (.lt (.app 20004 (.cons (.var 1) (.cons (.sel 0 (.var 0) (.var 4)) .nil)) 0) 1
   (.ite (.var 5)
    (.ret (.cons (.n 0) (.cons (.var 4) (.cons (.var 4) .nil))))
    (.ret (.cons (.n (-1)) (.cons (.var 2) (.cons (.bin (.add .i64) (.var 4) (.n 1)) .nil)))))))))
   (.ret (.cons (.n 1) (.cons (.var 2) (.cons (.var 4) .nil)))))
theorem le43_0 : (loopVT Try.prog (sgOf sg43) (ltOf lt43) L43_0 lb43_0).slim L43_0.nv [] = rt43_0 := by kernel_rfl
theorem lf43_0 : (firstRegion lb43_0).bind (ltOf lt43) = some L43_0 := by kernel_rfl
theorem lk43_0 : (Code.loops lb43_0).length = 0 := by kernel_rfl
def vt43 : VT :=
  (.need (.t true) (.pre 14300 (.cons (.var 0) (.cons (.var 1) (.cons (.n 0) (.cons (.un .len (.var 0)) (.cons (.n 0) .nil))))))
  (.lt (.app 14300 (.cons (.var 0) (.cons (.var 1) (.cons (.n 0) (.cons (.un .len (.var 0)) (.cons (.n 0) .nil))))) 0) 3
  (.ite (.bin .eq (.var 2) (.n 0))
   (.ret (.cons (.var 3) .nil))
   (.ret (.cons (.n (-1)) .nil)))))
theorem e43 : (fnVT Try.prog (sgOf sg43) (ltOf lt43) S43 Try.f43 c43).slim (S43.ps.map fun p => p.2.length).sum [] = vt43 := by kernel_rfl

/-! ### 36 -/
def S36 : Sig := ⟨[(false, [(.sl 3 [(.int .i64)])]), (false, [.clo])], [(false, [.bool])], [], none⟩
noncomputable def c36 : Code := Try.f36.body.getD .skip
theorem b36 : Try.f36.body = some c36 := body_some (by kernel_rfl)
theorem n36 : (Try.f36.name == "runtime.NumGoroutine") = false := by kernel_rfl
def sg36 : List (FuncId × Sig) := [(43, S43)]
def lt36 : List (Nat × LoopSig) := []
theorem k36 : (Code.loops c36).length = 0 := by kernel_rfl
def vt36 : VT :=
  (.need (.t true) (.pre 43 (.cons (.var 0) (.cons (.var 1) .nil)))
  (.lt (.app 43 (.cons (.var 0) (.cons (.var 1) .nil)) 0) 1
  (.ret (.cons (.bin .le (.n 0) (.var 2)) .nil))))
theorem e36 : (fnVT Try.prog (sgOf sg36) (ltOf lt36) S36 Try.f36 c36).slim (S36.ps.map fun p => p.2.length).sum [] = vt36 := by kernel_rfl

/-! ### 37 -/
def S37 : Sig := ⟨[(false, [(.int .i64)])], [(false, [.bool])], [], none⟩
noncomputable def c37 : Code := Try.f37.body.getD .skip
theorem b37 : Try.f37.body = some c37 := body_some (by kernel_rfl)
theorem n37 : (Try.f37.name == "runtime.NumGoroutine") = false := by kernel_rfl
def sg37 : List (FuncId × Sig) := []
def lt37 : List (Nat × LoopSig) := []
theorem k37 : (Code.loops c37).length = 0 := by kernel_rfl
def vt37 : VT :=
  (.ret (.cons (.ite (.bin .lt (.var 0) (.n 0)) (.t true) (.bin .lt (.n 1048576) (.var 0))) .nil))
theorem e37 : (fnVT Try.prog (sgOf sg37) (ltOf lt37) S37 Try.f37 c37).slim (S37.ps.map fun p => p.2.length).sum [] = vt37 := by kernel_rfl
def T37 : FuncId → List D → List D := tabOf []
def fn37 (ρ : List D) : List D := vt37.val T37 ρ
theorem m37 : Meets Try.prog 37 S37 (fun _ => True) fn37 := meets_easy (sgl := sg37) (Φ := T37) mixed ((fun _ h => nomatch h)) Try.func37 b37 n37 k37 e37 (by kernel_rfl)

/-! ### 22 -/
def S22 : Sig := ⟨[(false, [(.sl 3 [(.int .i64)])])], [(false, [.bool])], [], none⟩
noncomputable def c22 : Code := Try.f22.body.getD .skip
theorem b22 : Try.f22.body = some c22 := body_some (by kernel_rfl)
theorem n22 : (Try.f22.name == "runtime.NumGoroutine") = false := by kernel_rfl
def sg22 : List (FuncId × Sig) := [(36, S36)]
def lt22 : List (Nat × LoopSig) := []
theorem k22 : (Code.loops c22).length = 0 := by kernel_rfl
def vt22 : VT :=
  (.need (.t true) (.pre 36 (.cons (.var 0) (.cons (.clo 37 [] .nil) .nil)))
  (.lt (.app 36 (.cons (.var 0) (.cons (.clo 37 [] .nil) .nil)) 0) 1
  (.ret (.cons (.un .not (.var 1)) .nil))))
theorem e22 : (fnVT Try.prog (sgOf sg22) (ltOf lt22) S22 Try.f22 c22).slim (S22.ps.map fun p => p.2.length).sum [] = vt22 := by kernel_rfl

/-! ### 38 -/
def S38 : Sig := ⟨[(true, [(.int .i64), (.int .i64), (.int .i64), (.int .i64)])], [(true, [(.int .i64), (.int .i64)])], [], none⟩
noncomputable def c38 : Code := Try.f38.body.getD .skip
theorem b38 : Try.f38.body = some c38 := body_some (by kernel_rfl)
theorem n38 : (Try.f38.name == "runtime.NumGoroutine") = false := by kernel_rfl
def sg38 : List (FuncId × Sig) := [(21, S21)]
def lt38 : List (Nat × LoopSig) := []
theorem k38 : (Code.loops c38).length = 0 := by kernel_rfl
def vt38 : VT :=
  (.need (.t true) (.pre 21 (.cons (.var 0) (.cons (.var 1) (.cons (.var 2) (.cons (.var 3) .nil)))))
  (.lt (.app 21 (.cons (.var 0) (.cons (.var 1) (.cons (.var 2) (.cons (.var 3) .nil)))) 0) 1
  (.ite (.un .not (.var 4))
   (.ret (.cons (.n 0) (.cons (.n 0) .nil)))
   (.ret (.cons (.bin (.shr .i64) (.bin (.add .i64) (.var 0) (.var 2)) (.n 1)) (.cons (.bin (.shr .i64) (.bin (.add .i64) (.var 1) (.var 3)) (.n 1)) .nil))))))
theorem e38 : (fnVT Try.prog (sgOf sg38) (ltOf lt38) S38 Try.f38 c38).slim (S38.ps.map fun p => p.2.length).sum [] = vt38 := by kernel_rfl
def T38 : FuncId → List D → List D := tabOf [(21, fn21)]
def fn38 (ρ : List D) : List D := vt38.val T38 ρ
theorem m38 : Meets Try.prog 38 S38 (fun _ => True) fn38 := meets_easy (sgl := sg38) (Φ := T38) mixed (List.forall_mem_cons.2 ⟨m21, (fun _ h => nomatch h)⟩) Try.func38 b38 n38 k38 e38 (by kernel_rfl)

/-! ### 24 -/
def S24 : Sig := ⟨[(true, [(.int .i64), (.int .i64), (.int .i64), (.int .i64)]), (false, [(.int .i64)]), (false, [(.int .i64)]), (false, [(.int .i64)]), (false, [(.int .i64)])], [(true, [(.int .i64), (.int .i64), (.int .i64), (.int .i64)])], [], none⟩
noncomputable def c24 : Code := Try.f24.body.getD .skip
theorem b24 : Try.f24.body = some c24 := body_some (by kernel_rfl)
theorem n24 : (Try.f24.name == "runtime.NumGoroutine") = false := by kernel_rfl
def sg24 : List (FuncId × Sig) := [(38, S38)]
def lt24 : List (Nat × LoopSig) := []
theorem k24 : (Code.loops c24).length = 0 := by kernel_rfl
def vt24 : VT :=
  (.need (.t true) (.pre 38 (.cons (.var 0) (.cons (.var 1) (.cons (.var 2) (.cons (.var 3) .nil)))))
  (.lt (.app 38 (.cons (.var 0) (.cons (.var 1) (.cons (.var 2) (.cons (.var 3) .nil)))) 0) 2
  (.ite (.bin .eq (.var 7) (.n 1))
   (.ret (.cons (.bin (.add .i64) (.var 2) (.var 6)) (.cons (.bin (.sub .i64) (.bin (.sub .i64) (.var 1) (.var 6)) (.var 5)) (.cons (.bin (.add .i64) (.bin (.add .i64) (.var 2) (.var 6)) (.var 4)) (.cons (.bin (.add .i64) (.bin (.sub .i64) (.bin (.sub .i64) (.var 1) (.var 6)) (.var 5)) (.var 5)) .nil)))))
   (.ite (.bin .eq (.var 7) (.n 2))
    (.ret (.cons (.bin (.add .i64) (.var 2) (.var 6)) (.cons (.bin (.sub .i64) (.var 9) (.bin (.quo .i64) (.var 5) (.n 2))) (.cons (.bin (.add .i64) (.bin (.add .i64) (.var 2) (.var 6)) (.var 4)) (.cons (.bin (.add .i64) (.bin (.sub .i64) (.var 9) (.bin (.quo .i64) (.var 5) (.n 2))) (.var 5)) .nil)))))
    (.ite (.bin .eq (.var 7) (.n 3))
     (.ret (.cons (.bin (.add .i64) (.var 2) (.var 6)) (.cons (.bin (.add .i64) (.var 3) (.var 6)) (.cons (.bin (.add .i64) (.bin (.add .i64) (.var 2) (.var 6)) (.var 4)) (.cons (.bin (.add .i64) (.bin (.add .i64) (.var 3) (.var 6)) (.var 5)) .nil)))))
     (.ite (.bin .eq (.var 7) (.n 7))
      (.ret (.cons (.bin (.sub .i64) (.bin (.sub .i64) (.var 0) (.var 6)) (.var 4)) (.cons (.bin (.sub .i64) (.bin (.sub .i64) (.var 1) (.var 6)) (.var 5)) (.cons (.bin (.add .i64) (.bin (.sub .i64) (.bin (.sub .i64) (.var 0) (.var 6)) (.var 4)) (.var 4)) (.cons (.bin (.add .i64) (.bin (.sub .i64) (.bin (.sub .i64) (.var 1) (.var 6)) (.var 5)) (.var 5)) .nil)))))
      (.ite (.bin .eq (.var 7) (.n 6))
       (.ret (.cons (.bin (.sub .i64) (.bin (.sub .i64) (.var 0) (.var 6)) (.var 4)) (.cons (.bin (.sub .i64) (.var 9) (.bin (.quo .i64) (.var 5) (.n 2))) (.cons (.bin (.add .i64) (.bin (.sub .i64) (.bin (.sub .i64) (.var 0) (.var 6)) (.var 4)) (.var 4)) (.cons (.bin (.add .i64) (.bin (.sub .i64) (.var 9) (.bin (.quo .i64) (.var 5) (.n 2))) (.var 5)) .nil)))))
       (.ite (.bin .eq (.var 7) (.n 5))
        (.ret (.cons (.bin (.sub .i64) (.bin (.sub .i64) (.var 0) (.var 6)) (.var 4)) (.cons (.bin (.add .i64) (.var 3) (.var 6)) (.cons (.bin (.add .i64) (.bin (.sub .i64) (.bin (.sub .i64) (.var 0) (.var 6)) (.var 4)) (.var 4)) (.cons (.bin (.add .i64) (.bin (.add .i64) (.var 3) (.var 6)) (.var 5)) .nil)))))
        (.ite (.bin .eq (.var 7) (.n 0))
         (.ret (.cons (.bin (.sub .i64) (.var 8) (.bin (.quo .i64) (.var 4) (.n 2))) (.cons (.bin (.sub .i64) (.bin (.sub .i64) (.var 1) (.var 6)) (.var 5)) (.cons (.bin (.add .i64) (.bin (.sub .i64) (.var 8) (.bin (.quo .i64) (.var 4) (.n 2))) (.var 4)) (.cons (.bin (.add .i64) (.bin (.sub .i64) (.bin (.sub .i64) (.var 1) (.var 6)) (.var 5)) (.var 5)) .nil)))))
         (.ite (.bin .eq (.var 7) (.n 4))
          (.ret (.cons (.bin (.sub .i64) (.var 8) (.bin (.quo .i64) (.var 4) (.n 2))) (.cons (.bin (.add .i64) (.var 3) (.var 6)) (.cons (.bin (.add .i64) (.bin (.sub .i64) (.var 8) (.bin (.quo .i64) (.var 4) (.n 2))) (.var 4)) (.cons (.bin (.add .i64) (.bin (.add .i64) (.var 3) (.var 6)) (.var 5)) .nil)))))
          (.ret (.cons (.bin (.sub .i64) (.var 8) (.bin (.quo .i64) (.var 4) (.n 2))) (.cons (.bin (.sub .i64) (.var 9) (.bin (.quo .i64) (.var 5) (.n 2))) (.cons (.bin (.add .i64) (.bin (.sub .i64) (.var 8) (.bin (.quo .i64) (.var 4) (.n 2))) (.var 4)) (.cons (.bin (.add .i64) (.bin (.sub .i64) (.var 9) (.bin (.quo .i64) (.var 5) (.n 2))) (.var 5)) .nil)))))))))))))))
theorem e24 : (fnVT Try.prog (sgOf sg24) (ltOf lt24) S24 Try.f24 c24).slim (S24.ps.map fun p => p.2.length).sum [] = vt24 := by kernel_rfl
def T24 : FuncId → List D → List D := tabOf [(38, fn38)]
def fn24 (ρ : List D) : List D := vt24.val T24 ρ
theorem m24 : Meets Try.prog 24 S24 (fun _ => True) fn24 := meets_easy (sgl := sg24) (Φ := T24) mixed (List.forall_mem_cons.2 ⟨m38, (fun _ h => nomatch h)⟩) Try.func24 b24 n24 k24 e24 (by kernel_rfl)

/-! ### 10 -/
def S10 : Sig := ⟨[(true, [(.int .i64), (.int .i64), (.int .i64), (.int .i64)]), (false, [(.int .i64)]), (false, [(.int .i64)]), (false, [(.int .i64)])], [(false, [(.sl 23 [(.int .i64), (.int .i64), (.int .i64), (.int .i64)])])], [], none⟩
noncomputable def c10 : Code := Try.f10.body.getD .skip
theorem b10 : Try.f10.body = some c10 := body_some (by kernel_rfl)
theorem n10 : (Try.f10.name == "runtime.NumGoroutine") = false := by kernel_rfl
def P10_0 : LoopSig := ⟨17023000, [],
   ⟨[(.agg [(.x (.int .i64) (.var 1)), (.x (.int .i64) (.var 2)), (.x (.int .i64) (.var 3)), (.x (.int .i64) (.var 4))]), (.c (.ptr 2 0)), .any, .any, .any, .any, .any, .any, .any],
    [none, none, some ⟨(.t true), (.box 26 [(.row 3 1)] false)⟩, some ⟨(.t true), (.row 23 [(.int .i64), (.int .i64), (.int .i64), (.int .i64)] (.var 0) 1 false)⟩]⟩,
   5, [0], [0, 1, 2, 3, 4, 5, 6, 7, 8], []⟩
def Sp10_23 : Sig := ⟨[(false, []), (false, [])], [], [(P10_0, 1)], none⟩
def sg10 : List (FuncId × Sig) := [(21, S21), (22, S22), (24, S24), (23, Sp10_23), (17023000, ⟨[], [], [], some 2⟩)]
noncomputable def cp10_0 : Code := Try.f23.body.getD .skip
theorem bp10_0 : Try.f23.body = some cp10_0 := body_some (by kernel_rfl)
theorem np10_0 : (Try.f23.name == "runtime.NumGoroutine") = false := by kernel_rfl
def sgp10_0 : List (FuncId × Sig) := [(21, S21)]
def ltp10_0 : List (Nat × LoopSig) := []
theorem kp10_0 : (Code.loops cp10_0).length = 0 := by kernel_rfl
def pv10_0 : VT :=
  (.need (.t true) (.pre 21 (.cons (.var 1) (.cons (.var 2) (.cons (.var 3) (.cons (.var 4) .nil)))))
  (.lt (.app 21 (.cons (.var 1) (.cons (.var 2) (.cons (.var 3) (.cons (.var 4) .nil)))) 0) 1
  (.ite (.var 5)
   (.need (.t true) (.c (.bin .le (.un .len (.bin .cat (.var 0) (.lcons (.cons (.var 1) (.cons (.var 2) (.cons (.var 3) (.cons (.var 4) .nil)))) .lnil))) (.n 4398046511104)))
   (.ret (.cons (.n 0) (.cons (.bin .cat (.var 0) (.lcons (.cons (.var 1) (.cons (.var 2) (.cons (.var 3) (.cons (.var 4) .nil)))) .lnil)) .nil))))
   (.ret (.cons (.n 0) (.cons (.var 0) .nil))))))
theorem pe10_0 : (procVT Try.prog (sgOf sgp10_0) (ltOf ltp10_0) Sp10_23 P10_0 1 Try.f23 cp10_0).slim P10_0.nv [] = pv10_0 := by kernel_rfl
theorem pp10_0 : P10_0.head.plain = true := by kernel_rfl
theorem pl10_0 : P10_0.head.slots.length = Try.f23.ntmps := by kernel_rfl
def L10_0 : LoopSig := ⟨11000, [(2, some 0, 23)],
   ⟨[.any, (.c (.x (.int .i64) (.var 0))), (.c (.x (.int .i64) (.var 1))), (.c (.x (.int .i64) (.var 2))), (.c (.ptr 0 0)), .any, .any, .any, .any, .any, (.c (.fn 23 [(2, 0)])), .any, .any, .any, .any, .any, .any, .any, .any, .any, .any, .any, .any, .any, (.c (.x (.int .i64) (.var 3))), .any, .any, .any, .any, .any, .any, .any, .any, .any, .any, .any, .any],
    [some ⟨(.t true), (.box 23 [(.x (.int .i64) (.var 4)), (.x (.int .i64) (.var 5)), (.x (.int .i64) (.var 6)), (.x (.int .i64) (.var 7))] false)⟩, none, some ⟨(.t true), (.box 26 [(.row 3 1)] false)⟩, some ⟨(.t true), (.row 23 [(.int .i64), (.int .i64), (.int .i64), (.int .i64)] (.var 8) 1 false)⟩]⟩,
   9, [3, 8], [25, 26, 11, 27, 28, 29, 30, 31, 32, 33, 34, 35, 24], [(.exit 0)]⟩
def lt10 : List (Nat × LoopSig) := [(6, L10_0)]
theorem k10 : (Code.loops c10).length = 1 := by kernel_rfl
noncomputable def lb10_0 : Code := (Code.loops c10).getD 0 .skip
def rt10_0 : VT :=
  (.ite (.bin .lt (.var 3) (.n 8))
   (.need (.t true) (.pre 24 (.cons (.var 4) (.cons (.var 5) (.cons (.var 6) (.cons (.var 7) (.cons (.var 0) (.cons (.var 1) (.cons (.var 2) (.cons (.var 3) .nil)))))))))
   (.lt (.app 24 (.cons (.var 4) (.cons (.var 5) (.cons (.var 6) (.cons (.var 7) (.cons (.var 0) (.cons (.var 1) (.cons (.var 2) (.cons (.var 3) .nil)))))))) 0) 4
   (.need (.t true) (.pre 17023000 (.cons (.var 8) (.cons (.var 9) (.cons (.var 10) (.cons (.var 11) (.cons (.var 12) .nil))))))
   (.lt (.app 17023000 (.cons (.var 8) (.cons (.var 9) (.cons (.var 10) (.cons (.var 11) (.cons (.var 12) .nil))))) 0) 2
   (.ret (.cons (.n (-1)) (.cons (.bin (.add .i64) (.var 3) (.n 1)) (.cons (.var 14) .nil))))))))
   (.ret (.cons (.n 0) (.cons (.var 3) (.cons (.var 8) .nil)))))
theorem le10_0 : (loopVT Try.prog (sgOf sg10) (ltOf lt10) L10_0 lb10_0).slim L10_0.nv [] = rt10_0 := by kernel_rfl
theorem lf10_0 : (firstRegion lb10_0).bind (ltOf lt10) = some L10_0 := by kernel_rfl
theorem lk10_0 : (Code.loops lb10_0).length = 0 := by kernel_rfl
def vt10 : VT :=
  (.need (.t true) (.pre 21 (.cons (.var 0) (.cons (.var 1) (.cons (.var 2) (.cons (.var 3) .nil)))))
  (.lt (.app 21 (.cons (.var 0) (.cons (.var 1) (.cons (.var 2) (.cons (.var 3) .nil)))) 0) 1
  (.need (.var 7) (.pre 22 (.cons (.lcons (.cons (.var 4) .nil) (.lcons (.cons (.var 5) .nil) (.lcons (.cons (.var 6) .nil) .lnil))) .nil))
  (.lt (.app 22 (.cons (.lcons (.cons (.var 4) .nil) (.lcons (.cons (.var 5) .nil) (.lcons (.cons (.var 6) .nil) .lnil))) .nil) 0) 1
  (.ite (.ite (.un .not (.var 7)) (.t true) (.un .not (.var 8)))
   (.ret (.cons .lnil .nil))
   (.need (.t true) (.pre 11000 (.cons (.var 4) (.cons (.var 5) (.cons (.var 6) (.cons (.n 0) (.cons (.var 0) (.cons (.var 1) (.cons (.var 2) (.cons (.var 3) (.cons .lnil .nil))))))))))
   (.lt (.app 11000 (.cons (.var 4) (.cons (.var 5) (.cons (.var 6) (.cons (.n 0) (.cons (.var 0) (.cons (.var 1) (.cons (.var 2) (.cons (.var 3) (.cons .lnil .nil))))))))) 0) 3
   (.ret (.cons (.var 11) .nil)))))))))
theorem e10 : (fnVT Try.prog (sgOf sg10) (ltOf lt10) S10 Try.f10 c10).slim (S10.ps.map fun p => p.2.length).sum [] = vt10 := by kernel_rfl

/-! ### 18 -/
def S18 : Sig := ⟨[(true, [(.int .i64), (.int .i64), (.int .i64), (.int .i64)])], [(false, [.bool])], [], none⟩
noncomputable def c18 : Code := Try.f18.body.getD .skip
theorem b18 : Try.f18.body = some c18 := body_some (by kernel_rfl)
theorem n18 : (Try.f18.name == "runtime.NumGoroutine") = false := by kernel_rfl
def sg18 : List (FuncId × Sig) := []
def lt18 : List (Nat × LoopSig) := []
theorem k18 : (Code.loops c18).length = 0 := by kernel_rfl
def vt18 : VT :=
  (.ret (.cons (.ite (.ite (.ite (.ite (.ite (.bin .le (.n (-268435456)) (.var 0)) (.bin .le (.n (-268435456)) (.var 1)) (.t false)) (.bin .le (.var 2) (.n 268435456)) (.t false)) (.bin .le (.var 3) (.n 268435456)) (.t false)) (.bin .le (.var 0) (.var 2)) (.t false)) (.bin .le (.var 1) (.var 3)) (.t false)) .nil))
theorem e18 : (fnVT Try.prog (sgOf sg18) (ltOf lt18) S18 Try.f18 c18).slim (S18.ps.map fun p => p.2.length).sum [] = vt18 := by kernel_rfl
def T18 : FuncId → List D → List D := tabOf []
def fn18 (ρ : List D) : List D := vt18.val T18 ρ
theorem m18 : Meets Try.prog 18 S18 (fun _ => True) fn18 := meets_easy (sgl := sg18) (Φ := T18) mixed ((fun _ h => nomatch h)) Try.func18 b18 n18 k18 e18 (by kernel_rfl)

/-! ### 25 -/
def S25 : Sig := ⟨[(false, [(.int .i64)]), (false, [(.int .i64)]), (false, [(.int .i64)])], [(false, [.bool])], [], none⟩
noncomputable def c25 : Code := Try.f25.body.getD .skip
theorem b25 : Try.f25.body = some c25 := body_some (by kernel_rfl)
theorem n25 : (Try.f25.name == "runtime.NumGoroutine") = false := by kernel_rfl
def sg25 : List (FuncId × Sig) := []
def lt25 : List (Nat × LoopSig) := []
theorem k25 : (Code.loops c25).length = 0 := by kernel_rfl
def vt25 : VT :=
  (.ret (.cons (.ite (.ite (.ite (.ite (.ite (.bin .le (.n 0) (.var 0)) (.bin .le (.var 0) (.n 1048576)) (.t false)) (.bin .le (.n 0) (.var 1)) (.t false)) (.bin .le (.var 1) (.n 1048576)) (.t false)) (.bin .le (.n 0) (.var 2)) (.t false)) (.bin .le (.var 2) (.n 1048576)) (.t false)) .nil))
theorem e25 : (fnVT Try.prog (sgOf sg25) (ltOf lt25) S25 Try.f25 c25).slim (S25.ps.map fun p => p.2.length).sum [] = vt25 := by kernel_rfl
def T25 : FuncId → List D → List D := tabOf []
def fn25 (ρ : List D) : List D := vt25.val T25 ρ
theorem m25 : Meets Try.prog 25 S25 (fun _ => True) fn25 := meets_easy (sgl := sg25) (Φ := T25) mixed ((fun _ h => nomatch h)) Try.func25 b25 n25 k25 e25 (by kernel_rfl)

/-! ### 39 -/
def S39 : Sig := ⟨[(false, [(.int .i64)])], [(false, [(.int .i64)])], [], none⟩
noncomputable def c39 : Code := Try.f39.body.getD .skip
theorem b39 : Try.f39.body = some c39 := body_some (by kernel_rfl)
theorem n39 : (Try.f39.name == "runtime.NumGoroutine") = false := by kernel_rfl
def sg39 : List (FuncId × Sig) := []
def lt39 : List (Nat × LoopSig) := []
theorem k39 : (Code.loops c39).length = 0 := by kernel_rfl
def vt39 : VT :=
  (.ite (.bin .lt (.var 0) (.n 0))
   (.ret (.cons (.un (.neg .i64) (.bin (.quo .i64) (.bin (.sub .i64) (.n 1) (.var 0)) (.n 2))) .nil))
   (.ret (.cons (.bin (.quo .i64) (.var 0) (.n 2)) .nil)))
theorem e39 : (fnVT Try.prog (sgOf sg39) (ltOf lt39) S39 Try.f39 c39).slim (S39.ps.map fun p => p.2.length).sum [] = vt39 := by kernel_rfl
def T39 : FuncId → List D → List D := tabOf []
def fn39 (ρ : List D) : List D := vt39.val T39 ρ
theorem m39 : Meets Try.prog 39 S39 (fun _ => True) fn39 := meets_easy (sgl := sg39) (Φ := T39) mixed ((fun _ h => nomatch h)) Try.func39 b39 n39 k39 e39 (by kernel_rfl)

/-! ### 26 -/
def S26 : Sig := ⟨[(true, [(.int .i64), (.int .i64), (.int .i64), (.int .i64)]), (false, [(.int .i64)]), (false, [(.int .i64)]), (false, [(.int .i64)]), (false, [(.int .i64)])], [(true, [(.int .i64), (.int .i64), (.int .i64), (.int .i64)])], [], none⟩
noncomputable def c26 : Code := Try.f26.body.getD .skip
theorem b26 : Try.f26.body = some c26 := body_some (by kernel_rfl)
theorem n26 : (Try.f26.name == "runtime.NumGoroutine") = false := by kernel_rfl
def sg26 : List (FuncId × Sig) := [(39, S39)]
def lt26 : List (Nat × LoopSig) := []
theorem k26 : (Code.loops c26).length = 0 := by kernel_rfl
def vt26 : VT :=
  (.need (.t true) (.pre 39 (.cons (.bin (.add .i64) (.var 0) (.var 2)) .nil))
  (.lt (.app 39 (.cons (.bin (.add .i64) (.var 0) (.var 2)) .nil) 0) 1
  (.ite (.ite (.bin .le (.n 1) (.var 7)) (.bin .le (.var 7) (.n 3)) (.t false))
   (.ite (.bin .le (.n 5) (.var 7))
    (.ite (.ite (.bin .eq (.var 7) (.n 2)) (.t true) (.bin .eq (.var 7) (.n 6)))
     (.need (.t true) (.pre 39 (.cons (.bin (.add .i64) (.var 1) (.var 3)) .nil))
     (.lt (.app 39 (.cons (.bin (.add .i64) (.var 1) (.var 3)) .nil) 0) 1
     (.ite (.ite (.bin .le (.n 3) (.var 7)) (.bin .le (.var 7) (.n 5)) (.t false))
      (.ret (.cons (.bin (.sub .i64) (.bin (.sub .i64) (.var 0) (.var 6)) (.var 4)) (.cons (.bin (.add .i64) (.var 3) (.var 6)) (.cons (.bin (.add .i64) (.bin (.sub .i64) (.bin (.sub .i64) (.var 0) (.var 6)) (.var 4)) (.var 4)) (.cons (.bin (.add .i64) (.bin (.add .i64) (.var 3) (.var 6)) (.var 5)) .nil)))))
      (.ret (.cons (.bin (.sub .i64) (.bin (.sub .i64) (.var 0) (.var 6)) (.var 4)) (.cons (.bin (.sub .i64) (.var 9) (.bin (.quo .i64) (.var 5) (.n 2))) (.cons (.bin (.add .i64) (.bin (.sub .i64) (.bin (.sub .i64) (.var 0) (.var 6)) (.var 4)) (.var 4)) (.cons (.bin (.add .i64) (.bin (.sub .i64) (.var 9) (.bin (.quo .i64) (.var 5) (.n 2))) (.var 5)) .nil))))))))
     (.ite (.ite (.bin .le (.n 3) (.var 7)) (.bin .le (.var 7) (.n 5)) (.t false))
      (.ret (.cons (.bin (.sub .i64) (.bin (.sub .i64) (.var 0) (.var 6)) (.var 4)) (.cons (.bin (.add .i64) (.var 3) (.var 6)) (.cons (.bin (.add .i64) (.bin (.sub .i64) (.bin (.sub .i64) (.var 0) (.var 6)) (.var 4)) (.var 4)) (.cons (.bin (.add .i64) (.bin (.add .i64) (.var 3) (.var 6)) (.var 5)) .nil)))))
      (.ret (.cons (.bin (.sub .i64) (.bin (.sub .i64) (.var 0) (.var 6)) (.var 4)) (.cons (.bin (.sub .i64) (.bin (.sub .i64) (.var 1) (.var 6)) (.var 5)) (.cons (.bin (.add .i64) (.bin (.sub .i64) (.bin (.sub .i64) (.var 0) (.var 6)) (.var 4)) (.var 4)) (.cons (.bin (.add .i64) (.bin (.sub .i64) (.bin (.sub .i64) (.var 1) (.var 6)) (.var 5)) (.var 5)) .nil)))))))
    (.ite (.ite (.bin .eq (.var 7) (.n 2)) (.t true) (.bin .eq (.var 7) (.n 6)))
     (.need (.t true) (.pre 39 (.cons (.bin (.add .i64) (.var 1) (.var 3)) .nil))
     (.lt (.app 39 (.cons (.bin (.add .i64) (.var 1) (.var 3)) .nil) 0) 1
     (.ite (.ite (.bin .le (.n 3) (.var 7)) (.bin .le (.var 7) (.n 5)) (.t false))
      (.ret (.cons (.bin (.add .i64) (.var 2) (.var 6)) (.cons (.bin (.add .i64) (.var 3) (.var 6)) (.cons (.bin (.add .i64) (.bin (.add .i64) (.var 2) (.var 6)) (.var 4)) (.cons (.bin (.add .i64) (.bin (.add .i64) (.var 3) (.var 6)) (.var 5)) .nil)))))
      (.ret (.cons (.bin (.add .i64) (.var 2) (.var 6)) (.cons (.bin (.sub .i64) (.var 9) (.bin (.quo .i64) (.var 5) (.n 2))) (.cons (.bin (.add .i64) (.bin (.add .i64) (.var 2) (.var 6)) (.var 4)) (.cons (.bin (.add .i64) (.bin (.sub .i64) (.var 9) (.bin (.quo .i64) (.var 5) (.n 2))) (.var 5)) .nil))))))))
     (.ite (.ite (.bin .le (.n 3) (.var 7)) (.bin .le (.var 7) (.n 5)) (.t false))
      (.ret (.cons (.bin (.add .i64) (.var 2) (.var 6)) (.cons (.bin (.add .i64) (.var 3) (.var 6)) (.cons (.bin (.add .i64) (.bin (.add .i64) (.var 2) (.var 6)) (.var 4)) (.cons (.bin (.add .i64) (.bin (.add .i64) (.var 3) (.var 6)) (.var 5)) .nil)))))
      (.ret (.cons (.bin (.add .i64) (.var 2) (.var 6)) (.cons (.bin (.sub .i64) (.bin (.sub .i64) (.var 1) (.var 6)) (.var 5)) (.cons (.bin (.add .i64) (.bin (.add .i64) (.var 2) (.var 6)) (.var 4)) (.cons (.bin (.add .i64) (.bin (.sub .i64) (.bin (.sub .i64) (.var 1) (.var 6)) (.var 5)) (.var 5)) .nil))))))))
   (.ite (.bin .le (.n 5) (.var 7))
    (.ite (.ite (.bin .eq (.var 7) (.n 2)) (.t true) (.bin .eq (.var 7) (.n 6)))
     (.need (.t true) (.pre 39 (.cons (.bin (.add .i64) (.var 1) (.var 3)) .nil))
     (.lt (.app 39 (.cons (.bin (.add .i64) (.var 1) (.var 3)) .nil) 0) 1
     (.ite (.ite (.bin .le (.n 3) (.var 7)) (.bin .le (.var 7) (.n 5)) (.t false))
      (.ret (.cons (.bin (.sub .i64) (.bin (.sub .i64) (.var 0) (.var 6)) (.var 4)) (.cons (.bin (.add .i64) (.var 3) (.var 6)) (.cons (.bin (.add .i64) (.bin (.sub .i64) (.bin (.sub .i64) (.var 0) (.var 6)) (.var 4)) (.var 4)) (.cons (.bin (.add .i64) (.bin (.add .i64) (.var 3) (.var 6)) (.var 5)) .nil)))))
      (.ret (.cons (.bin (.sub .i64) (.bin (.sub .i64) (.var 0) (.var 6)) (.var 4)) (.cons (.bin (.sub .i64) (.var 9) (.bin (.quo .i64) (.var 5) (.n 2))) (.cons (.bin (.add .i64) (.bin (.sub .i64) (.bin (.sub .i64) (.var 0) (.var 6)) (.var 4)) (.var 4)) (.cons (.bin (.add .i64) (.bin (.sub .i64) (.var 9) (.bin (.quo .i64) (.var 5) (.n 2))) (.var 5)) .nil))))))))
     (.ite (.ite (.bin .le (.n 3) (.var 7)) (.bin .le (.var 7) (.n 5)) (.t false))
      (.ret (.cons (.bin (.sub .i64) (.bin (.sub .i64) (.var 0) (.var 6)) (.var 4)) (.cons (.bin (.add .i64) (.var 3) (.var 6)) (.cons (.bin (.add .i64) (.bin (.sub .i64) (.bin (.sub .i64) (.var 0) (.var 6)) (.var 4)) (.var 4)) (.cons (.bin (.add .i64) (.bin (.add .i64) (.var 3) (.var 6)) (.var 5)) .nil)))))
      (.ret (.cons (.bin (.sub .i64) (.bin (.sub .i64) (.var 0) (.var 6)) (.var 4)) (.cons (.bin (.sub .i64) (.bin (.sub .i64) (.var 1) (.var 6)) (.var 5)) (.cons (.bin (.add .i64) (.bin (.sub .i64) (.bin (.sub .i64) (.var 0) (.var 6)) (.var 4)) (.var 4)) (.cons (.bin (.add .i64) (.bin (.sub .i64) (.bin (.sub .i64) (.var 1) (.var 6)) (.var 5)) (.var 5)) .nil)))))))
    (.ite (.ite (.bin .eq (.var 7) (.n 2)) (.t true) (.bin .eq (.var 7) (.n 6)))
     (.need (.t true) (.pre 39 (.cons (.bin (.add .i64) (.var 1) (.var 3)) .nil))
     (.lt (.app 39 (.cons (.bin (.add .i64) (.var 1) (.var 3)) .nil) 0) 1
     (.ite (.ite (.bin .le (.n 3) (.var 7)) (.bin .le (.var 7) (.n 5)) (.t false))
      (.ret (.cons (.bin (.sub .i64) (.var 8) (.bin (.quo .i64) (.var 4) (.n 2))) (.cons (.bin (.add .i64) (.var 3) (.var 6)) (.cons (.bin (.add .i64) (.bin (.sub .i64) (.var 8) (.bin (.quo .i64) (.var 4) (.n 2))) (.var 4)) (.cons (.bin (.add .i64) (.bin (.add .i64) (.var 3) (.var 6)) (.var 5)) .nil)))))
      (.ret (.cons (.bin (.sub .i64) (.var 8) (.bin (.quo .i64) (.var 4) (.n 2))) (.cons (.bin (.sub .i64) (.var 9) (.bin (.quo .i64) (.var 5) (.n 2))) (.cons (.bin (.add .i64) (.bin (.sub .i64) (.var 8) (.bin (.quo .i64) (.var 4) (.n 2))) (.var 4)) (.cons (.bin (.add .i64) (.bin (.sub .i64) (.var 9) (.bin (.quo .i64) (.var 5) (.n 2))) (.var 5)) .nil))))))))
     (.ite (.ite (.bin .le (.n 3) (.var 7)) (.bin .le (.var 7) (.n 5)) (.t false))
      (.ret (.cons (.bin (.sub .i64) (.var 8) (.bin (.quo .i64) (.var 4) (.n 2))) (.cons (.bin (.add .i64) (.var 3) (.var 6)) (.cons (.bin (.add .i64) (.bin (.sub .i64) (.var 8) (.bin (.quo .i64) (.var 4) (.n 2))) (.var 4)) (.cons (.bin (.add .i64) (.bin (.add .i64) (.var 3) (.var 6)) (.var 5)) .nil)))))
      (.ret (.cons (.bin (.sub .i64) (.var 8) (.bin (.quo .i64) (.var 4) (.n 2))) (.cons (.bin (.sub .i64) (.bin (.sub .i64) (.var 1) (.var 6)) (.var 5)) (.cons (.bin (.add .i64) (.bin (.sub .i64) (.var 8) (.bin (.quo .i64) (.var 4) (.n 2))) (.var 4)) (.cons (.bin (.add .i64) (.bin (.sub .i64) (.bin (.sub .i64) (.var 1) (.var 6)) (.var 5)) (.var 5)) .nil)))))))))))
theorem e26 : (fnVT Try.prog (sgOf sg26) (ltOf lt26) S26 Try.f26 c26).slim (S26.ps.map fun p => p.2.length).sum [] = vt26 := by kernel_rfl
def T26 : FuncId → List D → List D := tabOf [(39, fn39)]
def fn26 (ρ : List D) : List D := vt26.val T26 ρ
theorem m26 : Meets Try.prog 26 S26 (fun _ => True) fn26 := meets_easy (sgl := sg26) (Φ := T26) mixed (List.forall_mem_cons.2 ⟨m39, (fun _ h => nomatch h)⟩) Try.func26 b26 n26 k26 e26 (by kernel_rfl)

/-! ### 11 -/
def S11 : Sig := ⟨[(true, [(.int .i64), (.int .i64), (.int .i64), (.int .i64)]), (false, [(.int .i64)]), (false, [(.int .i64)]), (false, [(.int .i64)])], [(false, [(.sl 23 [(.int .i64), (.int .i64), (.int .i64), (.int .i64)])])], [], none⟩
noncomputable def c11 : Code := Try.f11.body.getD .skip
theorem b11 : Try.f11.body = some c11 := body_some (by kernel_rfl)
theorem n11 : (Try.f11.name == "runtime.NumGoroutine") = false := by kernel_rfl
def sg11 : List (FuncId × Sig) := [(18, S18), (25, S25), (26, S26)]
def L11_0 : LoopSig := ⟨11100, [],
   ⟨[.any, (.c (.x (.int .i64) (.var 0))), (.c (.x (.int .i64) (.var 1))), (.c (.x (.int .i64) (.var 2))), (.c (.ptr 0 0)), .any, .any, .any, .any, (.c (.row 1 1)), (.c (.x (.int .i64) (.var 3))), .any, .any, .any, .any, .any, .any, .any, .any, .any, .any, .any, .any, .any, .any, .any, .any, .any, .any, .any, .any, .any, .any, .any, .any, .any, .any, .any, .any, .any],
    [some ⟨(.t true), (.box 23 [(.x (.int .i64) (.var 4)), (.x (.int .i64) (.var 5)), (.x (.int .i64) (.var 6)), (.x (.int .i64) (.var 7))] false)⟩, some ⟨(.t true), (.row 23 [(.int .i64), (.int .i64), (.int .i64), (.int .i64)] (.var 8) 1 false)⟩]⟩,
   9, [3, 8], [13, 14, 15, 16, 17, 18, 19, 20, 21, 22, 23, 24, 27, 28, 29, 30, 31, 32, 11, 33, 34, 35, 36, 37, 38, 9, 25, 26, 10], [(.exit 0)]⟩
def lt11 : List (Nat × LoopSig) := [(3, L11_0)]
theorem k11 : (Code.loops c11).length = 1 := by kernel_rfl
noncomputable def lb11_0 : Code := (Code.loops c11).getD 0 .skip
def rt11_0 : VT :=
  (.need (.bin .lt (.var 3) (.n 8)) (.pre 18 (.cons (.var 4) (.cons (.var 5) (.cons (.var 6) (.cons (.var 7) .nil)))))
  (.lt (.app 18 (.cons (.var 4) (.cons (.var 5) (.cons (.var 6) (.cons (.var 7) .nil)))) 0) 1
  (.need (.ite (.bin .lt (.var 3) (.n 8)) (.var 9) (.t false)) (.pre 25 (.cons (.var 0) (.cons (.var 1) (.cons (.var 2) .nil))))
  (.lt (.app 25 (.cons (.var 0) (.cons (.var 1) (.cons (.var 2) .nil))) 0) 1
  (.ite (.ite (.ite (.bin .lt (.var 3) (.n 8)) (.var 9) (.t false)) (.var 10) (.t false))
   (.need (.t true) (.pre 26 (.cons (.var 4) (.cons (.var 5) (.cons (.var 6) (.cons (.var 7) (.cons (.var 0) (.cons (.var 1) (.cons (.var 2) (.cons (.var 3) .nil)))))))))
   (.lt (.app 26 (.cons (.var 4) (.cons (.var 5) (.cons (.var 6) (.cons (.var 7) (.cons (.var 0) (.cons (.var 1) (.cons (.var 2) (.cons (.var 3) .nil)))))))) 0) 4
   (.need (.t true) (.pre 18 (.cons (.var 11) (.cons (.var 12) (.cons (.var 13) (.cons (.var 14) .nil)))))
   (.lt (.app 18 (.cons (.var 11) (.cons (.var 12) (.cons (.var 13) (.cons (.var 14) .nil)))) 0) 1
   (.ite (.var 15)
    (.need (.t true) (.c (.bin .le (.un .len (.bin .cat (.var 8) (.lcons (.cons (.var 11) (.cons (.var 12) (.cons (.var 13) (.cons (.var 14) .nil)))) .lnil))) (.n 4398046511104)))
    (.ret (.cons (.n (-1)) (.cons (.bin (.add .i64) (.var 3) (.n 1)) (.cons (.bin .cat (.var 8) (.lcons (.cons (.var 11) (.cons (.var 12) (.cons (.var 13) (.cons (.var 14) .nil)))) .lnil)) .nil)))))
    (.ret (.cons (.n (-1)) (.cons (.bin (.add .i64) (.var 3) (.n 1)) (.cons (.var 8) .nil)))))))))
   (.ret (.cons (.n 0) (.cons (.var 3) (.cons (.var 8) .nil)))))))))
theorem le11_0 : (loopVT Try.prog (sgOf sg11) (ltOf lt11) L11_0 lb11_0).slim L11_0.nv [] = rt11_0 := by kernel_rfl
theorem lf11_0 : (firstRegion lb11_0).bind (ltOf lt11) = some L11_0 := by kernel_rfl
theorem lk11_0 : (Code.loops lb11_0).length = 0 := by kernel_rfl
def vt11 : VT :=
  (.need (.t true) (.pre 11100 (.cons (.var 4) (.cons (.var 5) (.cons (.var 6) (.cons (.n 0) (.cons (.var 0) (.cons (.var 1) (.cons (.var 2) (.cons (.var 3) (.cons .lnil .nil))))))))))
  (.lt (.app 11100 (.cons (.var 4) (.cons (.var 5) (.cons (.var 6) (.cons (.n 0) (.cons (.var 0) (.cons (.var 1) (.cons (.var 2) (.cons (.var 3) (.cons .lnil .nil))))))))) 0) 3
  (.ret (.cons (.var 9) .nil))))
theorem e11 : (fnVT Try.prog (sgOf sg11) (ltOf lt11) S11 Try.f11 c11).slim (S11.ps.map fun p => p.2.length).sum [] = vt11 := by kernel_rfl

/-! ### 9 -/
def S9 : Sig := ⟨[(false, [(.sl 23 [(.int .i64), (.int .i64), (.int .i64), (.int .i64)])]), (false, [(.sl 23 [(.int .i64), (.int .i64), (.int .i64), (.int .i64)])])], [(false, [.bool])], [], none⟩
noncomputable def c9 : Code := Try.f9.body.getD .skip
theorem b9 : Try.f9.body = some c9 := body_some (by kernel_rfl)
theorem n9 : (Try.f9.name == "runtime.NumGoroutine") = false := by kernel_rfl
def sg9 : List (FuncId × Sig) := []
def L9_0 : LoopSig := ⟨10900, [],
   ⟨[(.c (.x (.sl 23 [(.int .i64), (.int .i64), (.int .i64), (.int .i64)]) (.var 0))), (.c (.x (.sl 23 [(.int .i64), (.int .i64), (.int .i64), (.int .i64)]) (.var 1))), .any, .any, (.c (.x .bool (.var 2))), (.c (.x (.int .i64) (.var 3))), .any, .any, .any, .any, .any, .any, .any, .any, .any, .any, .any, .any, .any, .any, .any, .any, .any, .any, .any, .any],
    []⟩,
   4, [2, 3], [11, 12, 13, 14, 17, 18, 19, 20, 21, 22, 23, 24, 25, 4, 15, 16, 5], [.ret, (.exit 0)]⟩
def lt9 : List (Nat × LoopSig) := [(4, L9_0)]
theorem k9 : (Code.loops c9).length = 1 := by kernel_rfl
noncomputable def lb9_0 : Code := (Code.loops c9).getD 0 .skip
def rt9_0 : VT :=
  (.ite (.bin .lt (.var 3) (.un .len (.var 0)))
   (.need (.t true) (.c (.bin .le (.n 0) (.var 3)))
   (.need (.t true) (.c (.bin .lt (.var 3) (.un .len (.var 1))))
   (.ite (.un .not (.ite (.bin .eq (.sel 0 (.var 0) (.var 3)) (.sel 0 (.var 1) (.var 3))) (.ite (.bin .eq (.sel 1 (.var 0) (.var 3)) (.sel 1 (.var 1) (.var 3))) (.ite (.bin .eq (.sel 2 (.var 0) (.var 3)) (.sel 2 (.var 1) (.var 3))) (.bin .eq (.sel 3 (.var 0) (.var 3)) (.sel 3 (.var 1) (.var 3))) (.t false)) (.t false)) (.t false)))
    (.ret (.cons (.n 0) (.cons (.t false) (.cons (.var 3) .nil))))
    (.ret (.cons (.n (-1)) (.cons (.var 2) (.cons (.bin (.add .i64) (.var 3) (.n 1)) .nil)))))))
   (.ret (.cons (.n 1) (.cons (.var 2) (.cons (.var 3) .nil)))))
theorem le9_0 : (loopVT Try.prog (sgOf sg9) (ltOf lt9) L9_0 lb9_0).slim L9_0.nv [] = rt9_0 := by kernel_rfl
theorem lf9_0 : (firstRegion lb9_0).bind (ltOf lt9) = some L9_0 := by kernel_rfl
theorem lk9_0 : (Code.loops lb9_0).length = 0 := by kernel_rfl
def vt9 : VT :=
  (.ite (.un .not (.bin .eq (.un .len (.var 0)) (.un .len (.var 1))))
   (.ret (.cons (.t false) .nil))
   (.need (.t true) (.pre 10900 (.cons (.var 0) (.cons (.var 1) (.cons (.t false) (.cons (.n 0) .nil)))))
   (.lt (.app 10900 (.cons (.var 0) (.cons (.var 1) (.cons (.t false) (.cons (.n 0) .nil)))) 0) 3
   (.ite (.bin .eq (.var 2) (.n 0))
    (.ret (.cons (.var 3) .nil))
    (.ret (.cons (.t true) .nil))))))
theorem e9 : (fnVT Try.prog (sgOf sg9) (ltOf lt9) S9 Try.f9 c9).slim (S9.ps.map fun p => p.2.length).sum [] = vt9 := by kernel_rfl

/-! ### 40 -/
def S40 : Sig := ⟨[(false, [(.sl 45 [(.int .i64), (.int .i64)])])], [(false, [.bool])], [], none⟩
noncomputable def c40 : Code := Try.f40.body.getD .skip
theorem b40 : Try.f40.body = some c40 := body_some (by kernel_rfl)
theorem n40 : (Try.f40.name == "runtime.NumGoroutine") = false := by kernel_rfl
def sg40 : List (FuncId × Sig) := []
def L40_0 : LoopSig := ⟨14000, [],
   ⟨[(.c (.x (.sl 45 [(.int .i64), (.int .i64)]) (.var 0))), .any, (.c (.x .bool (.var 1))), (.c (.x (.int .i64) (.var 2))), .any, .any, .any, .any, .any, .any, .any, .any, .any, .any, .any, .any, .any, .any, .any, .any],
    []⟩,
   3, [1, 2], [4, 5, 6, 7, 10, 11, 12, 13, 14, 15, 16, 17, 18, 19, 2, 8, 9, 3], [.ret, (.exit 0)]⟩
def lt40 : List (Nat × LoopSig) := [(2, L40_0)]
theorem k40 : (Code.loops c40).length = 1 := by kernel_rfl
noncomputable def lb40_0 : Code := (Code.loops c40).getD 0 .skip
def rt40_0 : VT :=
  (.ite (.bin .lt (.var 2) (.un .len (.var 0)))
   (.need (.t true) (.c (.bin .le (.n 0) (.bin (.sub .i64) (.var 2) (.n 1))))
   (.need (.t true) (.c (.bin .lt (.bin (.sub .i64) (.var 2) (.n 1)) (.un .len (.var 0))))
   (.need (.t true) (.c (.bin .le (.n 0) (.var 2)))
   (.ite (.ite (.bin .eq (.sel 0 (.var 0) (.bin (.sub .i64) (.var 2) (.n 1))) (.sel 0 (.var 0) (.var 2))) (.bin .eq (.sel 1 (.var 0) (.bin (.sub .i64) (.var 2) (.n 1))) (.sel 1 (.var 0) (.var 2))) (.t false))
    (.ret (.cons (.n 0) (.cons (.t false) (.cons (.var 2) .nil))))
    (.ret (.cons (.n (-1)) (.cons (.var 1) (.cons (.bin (.add .i64) (.var 2) (.n 1)) .nil))))))))
   (.ret (.cons (.n 1) (.cons (.var 1) (.cons (.var 2) .nil)))))
theorem le40_0 : (loopVT Try.prog (sgOf sg40) (ltOf lt40) L40_0 lb40_0).slim L40_0.nv [] = rt40_0 := by kernel_rfl
theorem lf40_0 : (firstRegion lb40_0).bind (ltOf lt40) = some L40_0 := by kernel_rfl
theorem lk40_0 : (Code.loops lb40_0).length = 0 := by kernel_rfl
def vt40 : VT :=
  (.need (.t true) (.pre 14000 (.cons (.var 0) (.cons (.t false) (.cons (.n 1) .nil))))
  (.lt (.app 14000 (.cons (.var 0) (.cons (.t false) (.cons (.n 1) .nil))) 0) 3
  (.ite (.bin .eq (.var 1) (.n 0))
   (.ret (.cons (.var 2) .nil))
   (.ret (.cons (.t true) .nil)))))
theorem e40 : (fnVT Try.prog (sgOf sg40) (ltOf lt40) S40 Try.f40 c40).slim (S40.ps.map fun p => p.2.length).sum [] = vt40 := by kernel_rfl

/-! ### 46 -/
def S46 : Sig := ⟨[(false, [(.sl 45 [(.int .i64), (.int .i64)])]), (false, [.clo])], [(false, [(.int .i64)])], [], none⟩
noncomputable def c46 : Code := Try.f46.body.getD .skip
theorem b46 : Try.f46.body = some c46 := body_some (by kernel_rfl)
theorem n46 : (Try.f46.name == "runtime.NumGoroutine") = false := by kernel_rfl
def sg46 : List (FuncId × Sig) := [(20046, S20046)]
def L46_0 : LoopSig := ⟨14600, [],
   ⟨[(.c (.x (.sl 45 [(.int .i64), (.int .i64)]) (.var 0))), (.c (.x .clo (.var 1))), .any, .any, (.c (.x (.int .i64) (.var 2))), .any, .any, (.c (.x (.int .i64) (.var 3))), (.c (.x (.int .i64) (.var 4))), .any, .any, .any, .any, .any, .any, .any, .any, .any, .any],
    []⟩,
   5, [2, 4], [9, 10, 5, 11, 12, 13, 14, 15, 16, 17, 4, 18, 8], [.ret, (.exit 0)]⟩
def lt46 : List (Nat × LoopSig) := [(2, L46_0)]
theorem k46 : (Code.loops c46).length = 1 := by kernel_rfl
noncomputable def lb46_0 : Code := (Code.loops c46).getD 0 .skip
def rt46_0 : VT :=
  (.ite (.bin .lt (.var 4) (.var 3))
   (.need (.t true) (.c (.bin .le (.n 0) (.var 4)))
   (.need (.t true) (.c (.bin .lt (.var 4) (.un .len (.var 0))))
   (.need (.t true) (.pre 20046 (.cons (.var 1) (.cons (.sel 0 (.var 0) (.var 4)) (.cons (.sel 1 (.var 0) (.var 4)) .nil))))
   (.lt (.app 20046 (.cons (.var 1) (.cons (.sel 0 (.var 0) (.var 4)) (.cons (.sel 1 (.var 0) (.var 4)) .nil))) 0) 1
   (.ite (.var 5)
    (.ret (.cons (.n 0) (.cons (.var 4) (.cons (.var 4) .nil))))
    (.ret (.cons (.n (-1)) (.cons (.var 2) (.cons (.bin (.add .i64) (.var 4) (.n 1)) .nil)))))))))
   (.ret (.cons (.n 1) (.cons (.var 2) (.cons (.var 4) .nil)))))
theorem le46_0 : (loopVT Try.prog (sgOf sg46) (ltOf lt46) L46_0 lb46_0).slim L46_0.nv [] = rt46_0 := by kernel_rfl
theorem lf46_0 : (firstRegion lb46_0).bind (ltOf lt46) = some L46_0 := by kernel_rfl
theorem lk46_0 : (Code.loops lb46_0).length = 0 := by kernel_rfl
def vt46 : VT :=
  (.need (.t true) (.pre 14600 (.cons (.var 0) (.cons (.var 1) (.cons (.n 0) (.cons (.un .len (.var 0)) (.cons (.n 0) .nil))))))
  (.lt (.app 14600 (.cons (.var 0) (.cons (.var 1) (.cons (.n 0) (.cons (.un .len (.var 0)) (.cons (.n 0) .nil))))) 0) 3
  (.ite (.bin .eq (.var 2) (.n 0))
   (.ret (.cons (.var 3) .nil))
   (.ret (.cons (.n (-1)) .nil)))))
theorem e46 : (fnVT Try.prog (sgOf sg46) (ltOf lt46) S46 Try.f46 c46).slim (S46.ps.map fun p => p.2.length).sum [] = vt46 := by kernel_rfl

/-! ### 44 -/
def S44 : Sig := ⟨[(false, [(.sl 45 [(.int .i64), (.int .i64)])]), (false, [.clo])], [(false, [.bool])], [], none⟩
noncomputable def c44 : Code := Try.f44.body.getD .skip
theorem b44 : Try.f44.body = some c44 := body_some (by kernel_rfl)
theorem n44 : (Try.f44.name == "runtime.NumGoroutine") = false := by kernel_rfl
def sg44 : List (FuncId × Sig) := [(46, S46)]
def lt44 : List (Nat × LoopSig) := []
theorem k44 : (Code.loops c44).length = 0 := by kernel_rfl
def vt44 : VT :=
  (.need (.t true) (.pre 46 (.cons (.var 0) (.cons (.var 1) .nil)))
  (.lt (.app 46 (.cons (.var 0) (.cons (.var 1) .nil)) 0) 1
  (.ret (.cons (.bin .le (.n 0) (.var 2)) .nil))))
theorem e44 : (fnVT Try.prog (sgOf sg44) (ltOf lt44) S44 Try.f44 c44).slim (S44.ps.map fun p => p.2.length).sum [] = vt44 := by kernel_rfl

/-! ### 45 -/
def S45 : Sig := ⟨[(true, [(.int .i64), (.int .i64)])], [(false, [.bool])], [], none⟩
noncomputable def c45 : Code := Try.f45.body.getD .skip
theorem b45 : Try.f45.body = some c45 := body_some (by kernel_rfl)
theorem n45 : (Try.f45.name == "runtime.NumGoroutine") = false := by kernel_rfl
def sg45 : List (FuncId × Sig) := [(35, S35)]
def lt45 : List (Nat × LoopSig) := []
theorem k45 : (Code.loops c45).length = 0 := by kernel_rfl
def vt45 : VT :=
  (.need (.t true) (.pre 35 (.cons (.var 0) (.cons (.var 1) .nil)))
  (.lt (.app 35 (.cons (.var 0) (.cons (.var 1) .nil)) 0) 1
  (.ret (.cons (.un .not (.var 2)) .nil))))
theorem e45 : (fnVT Try.prog (sgOf sg45) (ltOf lt45) S45 Try.f45 c45).slim (S45.ps.map fun p => p.2.length).sum [] = vt45 := by kernel_rfl
def T45 : FuncId → List D → List D := tabOf [(35, fn35)]
def fn45 (ρ : List D) : List D := vt45.val T45 ρ
theorem m45 : Meets Try.prog 45 S45 (fun _ => True) fn45 := meets_easy (sgl := sg45) (Φ := T45) mixed (List.forall_mem_cons.2 ⟨m35, (fun _ h => nomatch h)⟩) Try.func45 b45 n45 k45 e45 (by kernel_rfl)

/-! ### 41 -/
def S41 : Sig := ⟨[(false, [(.sl 45 [(.int .i64), (.int .i64)])])], [(false, [.bool])], [], none⟩
noncomputable def c41 : Code := Try.f41.body.getD .skip
theorem b41 : Try.f41.body = some c41 := body_some (by kernel_rfl)
theorem n41 : (Try.f41.name == "runtime.NumGoroutine") = false := by kernel_rfl
def sg41 : List (FuncId × Sig) := [(44, S44)]
def lt41 : List (Nat × LoopSig) := []
theorem k41 : (Code.loops c41).length = 0 := by kernel_rfl
def vt41 : VT :=
  (.need (.ite (.bin .le (.n 1) (.un .len (.var 0))) (.bin .le (.un .len (.var 0)) (.n 512)) (.t false)) (.pre 44 (.cons (.var 0) (.cons (.clo 45 [] .nil) .nil)))
  (.lt (.app 44 (.cons (.var 0) (.cons (.clo 45 [] .nil) .nil)) 0) 1
  (.ret (.cons (.ite (.ite (.bin .le (.n 1) (.un .len (.var 0))) (.bin .le (.un .len (.var 0)) (.n 512)) (.t false)) (.un .not (.var 1)) (.t false)) .nil))))
theorem e41 : (fnVT Try.prog (sgOf sg41) (ltOf lt41) S41 Try.f41 c41).slim (S41.ps.map fun p => p.2.length).sum [] = vt41 := by kernel_rfl

/-! ### 27 -/
def S27 : Sig := ⟨[(false, [(.sl 45 [(.int .i64), (.int .i64)])])], [(false, [.bool])], [], none⟩
noncomputable def c27 : Code := Try.f27.body.getD .skip
theorem b27 : Try.f27.body = some c27 := body_some (by kernel_rfl)
theorem n27 : (Try.f27.name == "runtime.NumGoroutine") = false := by kernel_rfl
def sg27 : List (FuncId × Sig) := [(40, S40), (41, S41)]
def lt27 : List (Nat × LoopSig) := []
theorem k27 : (Code.loops c27).length = 0 := by kernel_rfl
def vt27 : VT :=
  (.need (.t true) (.pre 40 (.cons (.var 0) .nil))
  (.lt (.app 40 (.cons (.var 0) .nil) 0) 1
  (.need (.var 1) (.pre 41 (.cons (.var 0) .nil))
  (.lt (.app 41 (.cons (.var 0) .nil) 0) 1
  (.ret (.cons (.ite (.var 1) (.var 2) (.t false)) .nil))))))
theorem e27 : (fnVT Try.prog (sgOf sg27) (ltOf lt27) S27 Try.f27 c27).slim (S27.ps.map fun p => p.2.length).sum [] = vt27 := by kernel_rfl

/-! ### 29 -/
def S29 : Sig := ⟨[(false, [(.sl 45 [(.int .i64), (.int .i64)])])], [(true, [(.int .i64), (.int .i64), (.int .i64), (.int .i64)])], [], none⟩
noncomputable def c29 : Code := Try.f29.body.getD .skip
theorem b29 : Try.f29.body = some c29 := body_some (by kernel_rfl)
theorem n29 : (Try.f29.name == "runtime.NumGoroutine") = false := by kernel_rfl
def sg29 : List (FuncId × Sig) := [(27, S27)]
def L29_0 : LoopSig := ⟨12900, [],
   ⟨[.any, .any, .any, (.c (.ptr 1 0)), .any, .any, .any, .any, .any, .any, .any, .any, .any, .any, .any, .any, .any, .any, .any, .any, .any, .any, .any, .any, .any, .any, .any, (.c (.x (.sl 45 [(.int .i64), (.int .i64)]) (.var 0))), (.c (.x (.int .i64) (.var 1))), (.c (.x (.int .i64) (.var 2))), .any, .any, .any, .any, .any, .any, .any, .any, .any, .any, .any, .any, .any, .any, .any, .any, .any, .any, .any, .any, .any, .any, .any, .any, .any, .any],
    [none, some ⟨(.t true), (.box 23 [(.x (.int .i64) (.var 3)), (.x (.int .i64) (.var 4)), (.x (.int .i64) (.var 5)), (.x (.int .i64) (.var 6))] false)⟩]⟩,
   7, [2, 3, 4, 5, 6], [30, 31, 32, 5, 33, 34, 35, 36, 37, 38, 39, 40, 41, 42, 43, 44, 45, 46, 47, 48, 49, 50, 51, 52, 53, 54, 29], [(.exit 0)]⟩
def lt29 : List (Nat × LoopSig) := [(5, L29_0)]
theorem k29 : (Code.loops c29).length = 1 := by kernel_rfl
noncomputable def lb29_0 : Code := (Code.loops c29).getD 0 .skip
def rt29_0 : VT :=
  (.ite (.bin .lt (.var 2) (.var 1))
   (.need (.t true) (.c (.bin .le (.n 0) (.var 2)))
   (.need (.t true) (.c (.bin .lt (.var 2) (.un .len (.var 0))))
   (.ret (.cons (.n (-1)) (.cons (.bin (.add .i64) (.var 2) (.n 1)) (.cons (.bin .min (.var 3) (.sel 0 (.var 0) (.var 2))) (.cons (.bin .min (.var 4) (.sel 1 (.var 0) (.var 2))) (.cons (.bin .max (.var 5) (.sel 0 (.var 0) (.var 2))) (.cons (.bin .max (.var 6) (.sel 1 (.var 0) (.var 2))) .nil)))))))))
   (.ret (.cons (.n 0) (.cons (.var 2) (.cons (.var 3) (.cons (.var 4) (.cons (.var 5) (.cons (.var 6) .nil))))))))
theorem le29_0 : (loopVT Try.prog (sgOf sg29) (ltOf lt29) L29_0 lb29_0).slim L29_0.nv [] = rt29_0 := by kernel_rfl
theorem lf29_0 : (firstRegion lb29_0).bind (ltOf lt29) = some L29_0 := by kernel_rfl
theorem lk29_0 : (Code.loops lb29_0).length = 0 := by kernel_rfl
def vt29 : VT :=
  (.need (.t true) (.pre 27 (.cons (.var 0) .nil))
  (.lt (.app 27 (.cons (.var 0) .nil) 0) 1
  (.ite (.un .not (.var 1))
   (.ret (.cons (.n 0) (.cons (.n 0) (.cons (.n 0) (.cons (.n 0) .nil)))))
   (.need (.t true) (.c (.bin .lt (.n 0) (.un .len (.var 0))))
   (.need (.t true) (.pre 12900 (.cons (.var 0) (.cons (.un .len (.var 0)) (.cons (.n 0) (.cons (.sel 0 (.var 0) (.n 0)) (.cons (.sel 1 (.var 0) (.n 0)) (.cons (.sel 0 (.var 0) (.n 0)) (.cons (.sel 1 (.var 0) (.n 0)) .nil))))))))
   (.lt (.app 12900 (.cons (.var 0) (.cons (.un .len (.var 0)) (.cons (.n 0) (.cons (.sel 0 (.var 0) (.n 0)) (.cons (.sel 1 (.var 0) (.n 0)) (.cons (.sel 0 (.var 0) (.n 0)) (.cons (.sel 1 (.var 0) (.n 0)) .nil))))))) 0) 6
   (.ret (.cons (.var 4) (.cons (.var 5) (.cons (.var 6) (.cons (.var 7) .nil)))))))))))
theorem e29 : (fnVT Try.prog (sgOf sg29) (ltOf lt29) S29 Try.f29 c29).slim (S29.ps.map fun p => p.2.length).sum [] = vt29 := by kernel_rfl

/-! ### 13 -/
def S13 : Sig := ⟨[(false, [(.sl 45 [(.int .i64), (.int .i64)])]), (false, [(.int .i64)]), (false, [(.int .i64)]), (false, [(.int .i64)])], [(false, [(.sl 23 [(.int .i64), (.int .i64), (.int .i64), (.int .i64)])])], [], none⟩
noncomputable def c13 : Code := Try.f13.body.getD .skip
theorem b13 : Try.f13.body = some c13 := body_some (by kernel_rfl)
theorem n13 : (Try.f13.name == "runtime.NumGoroutine") = false := by kernel_rfl
def P13_0 : LoopSig := ⟨20028000, [],
   ⟨[(.agg [(.x (.int .i64) (.var 1)), (.x (.int .i64) (.var 2)), (.x (.int .i64) (.var 3)), (.x (.int .i64) (.var 4))]), (.c (.ptr 1 0)), .any, .any, .any, .any, .any, .any, .any],
    [none, some ⟨(.t true), (.box 26 [(.row 2 1)] false)⟩, some ⟨(.t true), (.row 23 [(.int .i64), (.int .i64), (.int .i64), (.int .i64)] (.var 0) 1 false)⟩]⟩,
   5, [0], [0, 1, 2, 3, 4, 5, 6, 7, 8], []⟩
def Sp13_28 : Sig := ⟨[(false, []), (false, [])], [], [(P13_0, 1)], none⟩
def sg13 : List (FuncId × Sig) := [(27, S27), (22, S22), (29, S29), (24, S24), (28, Sp13_28), (20028000, ⟨[], [], [], some 2⟩)]
noncomputable def cp13_0 : Code := Try.f28.body.getD .skip
theorem bp13_0 : Try.f28.body = some cp13_0 := body_some (by kernel_rfl)
theorem np13_0 : (Try.f28.name == "runtime.NumGoroutine") = false := by kernel_rfl
def sgp13_0 : List (FuncId × Sig) := [(21, S21)]
def ltp13_0 : List (Nat × LoopSig) := []
theorem kp13_0 : (Code.loops cp13_0).length = 0 := by kernel_rfl
def pv13_0 : VT :=
  (.need (.t true) (.pre 21 (.cons (.var 1) (.cons (.var 2) (.cons (.var 3) (.cons (.var 4) .nil)))))
  (.lt (.app 21 (.cons (.var 1) (.cons (.var 2) (.cons (.var 3) (.cons (.var 4) .nil)))) 0) 1
  (.ite (.var 5)
   (.need (.t true) (.c (.bin .le (.un .len (.bin .cat (.var 0) (.lcons (.cons (.var 1) (.cons (.var 2) (.cons (.var 3) (.cons (.var 4) .nil)))) .lnil))) (.n 4398046511104)))
   (.ret (.cons (.n 0) (.cons (.bin .cat (.var 0) (.lcons (.cons (.var 1) (.cons (.var 2) (.cons (.var 3) (.cons (.var 4) .nil)))) .lnil)) .nil))))
   (.ret (.cons (.n 0) (.cons (.var 0) .nil))))))
theorem pe13_0 : (procVT Try.prog (sgOf sgp13_0) (ltOf ltp13_0) Sp13_28 P13_0 1 Try.f28 cp13_0).slim P13_0.nv [] = pv13_0 := by kernel_rfl
theorem pp13_0 : P13_0.head.plain = true := by kernel_rfl
theorem pl13_0 : P13_0.head.slots.length = Try.f28.ntmps := by kernel_rfl
def L13_0 : LoopSig := ⟨11300, [(1, some 0, 23)],
   ⟨[(.c (.x (.sl 45 [(.int .i64), (.int .i64)]) (.var 0))), (.c (.x (.int .i64) (.var 1))), (.c (.x (.int .i64) (.var 2))), (.c (.x (.int .i64) (.var 3))), .any, .any, .any, .any, .any, .any, (.c (.fn 28 [(1, 0)])), (.c (.x (.int .i64) (.var 4))), .any, .any, .any, .any, .any, .any, .any, .any, .any, .any, .any, .any, .any, .any, .any, .any, .any, .any, .any, .any, .any, .any, .any, .any, .any, .any, .any, .any, .any, .any, .any, .any, .any, .any, .any, .any, .any, .any, .any, .any, .any, .any, .any, .any, .any, .any, .any, .any, .any, .any, .any, .any, .any, .any, .any, .any],
    [none, some ⟨(.t true), (.box 26 [(.row 2 1)] false)⟩, some ⟨(.t true), (.row 23 [(.int .i64), (.int .i64), (.int .i64), (.int .i64)] (.var 5) 1 false)⟩]⟩,
   6, [4, 5], [27, 28, 29, 30, 33, 34, 35, 36, 37, 38, 39, 12, 13, 14, 40, 41, 42, 43, 44, 45, 46, 47, 48, 49, 50, 51, 52, 53, 54, 55, 56, 57, 58, 59, 60, 61, 62, 63, 64, 65, 66, 31, 32, 11], [(.exit 0)]⟩
def lt13 : List (Nat × LoopSig) := [(6, L13_0)]
theorem k13 : (Code.loops c13).length = 1 := by kernel_rfl
noncomputable def lb13_0 : Code := (Code.loops c13).getD 0 .skip
def rt13_0 : VT :=
  (.ite (.bin .lt (.var 4) (.un .len (.var 0)))
   (.need (.t true) (.c (.bin .le (.n 0) (.bin (.sub .i64) (.var 4) (.n 1))))
   (.need (.t true) (.c (.bin .le (.bin (.sub .i64) (.var 4) (.n 1)) (.bin (.add .i64) (.var 4) (.n 1))))
   (.need (.t true) (.c (.bin .le (.bin (.add .i64) (.var 4) (.n 1)) (.un .len (.var 0))))
   (.need (.t true) (.pre 29 (.cons (.sub (.var 0) (.bin (.sub .i64) (.var 4) (.n 1)) (.bin (.add .i64) (.var 4) (.n 1))) .nil))
   (.lt (.app 29 (.cons (.sub (.var 0) (.bin (.sub .i64) (.var 4) (.n 1)) (.bin (.add .i64) (.var 4) (.n 1))) .nil) 0) 4
   (.ite (.bin .le (.bin (.sub .i64) (.var 9) (.var 7)) (.bin (.sub .i64) (.var 8) (.var 6)))
    (.need (.t true) (.pre 24 (.cons (.var 6) (.cons (.var 7) (.cons (.var 8) (.cons (.var 9) (.cons (.var 1) (.cons (.var 2) (.cons (.var 3) (.cons (.n 0) .nil)))))))))
    (.lt (.app 24 (.cons (.var 6) (.cons (.var 7) (.cons (.var 8) (.cons (.var 9) (.cons (.var 1) (.cons (.var 2) (.cons (.var 3) (.cons (.n 0) .nil)))))))) 0) 4
    (.need (.t true) (.pre 20028000 (.cons (.var 5) (.cons (.var 10) (.cons (.var 11) (.cons (.var 12) (.cons (.var 13) .nil))))))
    (.lt (.app 20028000 (.cons (.var 5) (.cons (.var 10) (.cons (.var 11) (.cons (.var 12) (.cons (.var 13) .nil))))) 0) 2
    (.need (.t true) (.pre 24 (.cons (.var 6) (.cons (.var 7) (.cons (.var 8) (.cons (.var 9) (.cons (.var 1) (.cons (.var 2) (.cons (.var 3) (.cons (.n 4) .nil)))))))))
    (.lt (.app 24 (.cons (.var 6) (.cons (.var 7) (.cons (.var 8) (.cons (.var 9) (.cons (.var 1) (.cons (.var 2) (.cons (.var 3) (.cons (.n 4) .nil)))))))) 0) 4
    (.need (.t true) (.pre 20028000 (.cons (.var 15) (.cons (.var 16) (.cons (.var 17) (.cons (.var 18) (.cons (.var 19) .nil))))))
    (.lt (.app 20028000 (.cons (.var 15) (.cons (.var 16) (.cons (.var 17) (.cons (.var 18) (.cons (.var 19) .nil))))) 0) 2
    (.ret (.cons (.n (-1)) (.cons (.bin (.add .i64) (.var 4) (.n 1)) (.cons (.var 21) .nil))))))))))))
    (.need (.t true) (.pre 24 (.cons (.var 6) (.cons (.var 7) (.cons (.var 8) (.cons (.var 9) (.cons (.var 1) (.cons (.var 2) (.cons (.var 3) (.cons (.n 2) .nil)))))))))
    (.lt (.app 24 (.cons (.var 6) (.cons (.var 7) (.cons (.var 8) (.cons (.var 9) (.cons (.var 1) (.cons (.var 2) (.cons (.var 3) (.cons (.n 2) .nil)))))))) 0) 4
    (.need (.t true) (.pre 20028000 (.cons (.var 5) (.cons (.var 10) (.cons (.var 11) (.cons (.var 12) (.cons (.var 13) .nil))))))
    (.lt (.app 20028000 (.cons (.var 5) (.cons (.var 10) (.cons (.var 11) (.cons (.var 12) (.cons (.var 13) .nil))))) 0) 2
    (.need (.t true) (.pre 24 (.cons (.var 6) (.cons (.var 7) (.cons (.var 8) (.cons (.var 9) (.cons (.var 1) (.cons (.var 2) (.cons (.var 3) (.cons (.n 6) .nil)))))))))
    (.lt (.app 24 (.cons (.var 6) (.cons (.var 7) (.cons (.var 8) (.cons (.var 9) (.cons (.var 1) (.cons (.var 2) (.cons (.var 3) (.cons (.n 6) .nil)))))))) 0) 4
    (.need (.t true) (.pre 20028000 (.cons (.var 15) (.cons (.var 16) (.cons (.var 17) (.cons (.var 18) (.cons (.var 19) .nil))))))
    (.lt (.app 20028000 (.cons (.var 15) (.cons (.var 16) (.cons (.var 17) (.cons (.var 18) (.cons (.var 19) .nil))))) 0) 2
    (.ret (.cons (.n (-1)) (.cons (.bin (.add .i64) (.var 4) (.n 1)) (.cons (.var 21) .nil))))))))))))))))))
   (.ret (.cons (.n 0) (.cons (.var 4) (.cons (.var 5) .nil)))))
theorem le13_0 : (loopVT Try.prog (sgOf sg13) (ltOf lt13) L13_0 lb13_0).slim L13_0.nv [] = rt13_0 := by kernel_rfl
theorem lf13_0 : (firstRegion lb13_0).bind (ltOf lt13) = some L13_0 := by kernel_rfl
theorem lk13_0 : (Code.loops lb13_0).length = 0 := by kernel_rfl
def vt13 : VT :=
  (.need (.t true) (.pre 27 (.cons (.var 0) .nil))
  (.lt (.app 27 (.cons (.var 0) .nil) 0) 1
  (.need (.var 4) (.pre 22 (.cons (.lcons (.cons (.var 1) .nil) (.lcons (.cons (.var 2) .nil) (.lcons (.cons (.var 3) .nil) .lnil))) .nil))
  (.lt (.app 22 (.cons (.lcons (.cons (.var 1) .nil) (.lcons (.cons (.var 2) .nil) (.lcons (.cons (.var 3) .nil) .lnil))) .nil) 0) 1
  (.ite (.ite (.un .not (.var 4)) (.t true) (.un .not (.var 5)))
   (.ret (.cons .lnil .nil))
   (.need (.t true) (.pre 11300 (.cons (.var 0) (.cons (.var 1) (.cons (.var 2) (.cons (.var 3) (.cons (.n 1) (.cons .lnil .nil)))))))
   (.lt (.app 11300 (.cons (.var 0) (.cons (.var 1) (.cons (.var 2) (.cons (.var 3) (.cons (.n 1) (.cons .lnil .nil)))))) 0) 3
   (.ret (.cons (.var 8) .nil)))))))))
theorem e13 : (fnVT Try.prog (sgOf sg13) (ltOf lt13) S13 Try.f13 c13).slim (S13.ps.map fun p => p.2.length).sum [] = vt13 := by kernel_rfl

/-! ### 32 -/
def S32 : Sig := ⟨[(true, [(.int .i64), (.int .i64), (.int .i64), (.int .i64)]), (true, [(.int .i64), (.int .i64), (.int .i64), (.int .i64)])], [(false, [.bool])], [], none⟩
noncomputable def c32 : Code := Try.f32.body.getD .skip
theorem b32 : Try.f32.body = some c32 := body_some (by kernel_rfl)
theorem n32 : (Try.f32.name == "runtime.NumGoroutine") = false := by kernel_rfl
def sg32 : List (FuncId × Sig) := [(21, S21)]
def lt32 : List (Nat × LoopSig) := []
theorem k32 : (Code.loops c32).length = 0 := by kernel_rfl
def vt32 : VT :=
  (.need (.t true) (.pre 21 (.cons (.var 0) (.cons (.var 1) (.cons (.var 2) (.cons (.var 3) .nil)))))
  (.lt (.app 21 (.cons (.var 0) (.cons (.var 1) (.cons (.var 2) (.cons (.var 3) .nil)))) 0) 1
  (.need (.var 8) (.pre 21 (.cons (.var 4) (.cons (.var 5) (.cons (.var 6) (.cons (.var 7) .nil)))))
  (.lt (.app 21 (.cons (.var 4) (.cons (.var 5) (.cons (.var 6) (.cons (.var 7) .nil)))) 0) 1
  (.ret (.cons (.ite (.ite (.ite (.var 8) (.var 9) (.t false)) (.bin .lt (.bin .max (.var 0) (.var 4)) (.bin .min (.var 2) (.var 6))) (.t false)) (.bin .lt (.bin .max (.var 1) (.var 5)) (.bin .min (.var 3) (.var 7))) (.t false)) .nil))))))
theorem e32 : (fnVT Try.prog (sgOf sg32) (ltOf lt32) S32 Try.f32 c32).slim (S32.ps.map fun p => p.2.length).sum [] = vt32 := by kernel_rfl
def T32 : FuncId → List D → List D := tabOf [(21, fn21)]
def fn32 (ρ : List D) : List D := vt32.val T32 ρ
theorem m32 : Meets Try.prog 32 S32 (fun _ => True) fn32 := meets_easy (sgl := sg32) (Φ := T32) mixed (List.forall_mem_cons.2 ⟨m21, (fun _ h => nomatch h)⟩) Try.func32 b32 n32 k32 e32 (by kernel_rfl)

/-! ### 31 -/
def S31 : Sig := ⟨[(true, [(.int .i64), (.int .i64), (.int .i64), (.int .i64)]), (false, [(.pt [(.int .i64), (.int .i64), (.int .i64), (.int .i64)])])], [(false, [.bool])], [], none⟩
noncomputable def c31 : Code := Try.f31.body.getD .skip
theorem b31 : Try.f31.body = some c31 := body_some (by kernel_rfl)
theorem n31 : (Try.f31.name == "runtime.NumGoroutine") = false := by kernel_rfl
def sg31 : List (FuncId × Sig) := [(32, S32)]
def lt31 : List (Nat × LoopSig) := []
theorem k31 : (Code.loops c31).length = 0 := by kernel_rfl
def vt31 : VT :=
  (.need (.t true) (.pre 32 (.cons (.psel 0 (.var 4)) (.cons (.psel 1 (.var 4)) (.cons (.psel 2 (.var 4)) (.cons (.psel 3 (.var 4)) (.cons (.var 0) (.cons (.var 1) (.cons (.var 2) (.cons (.var 3) .nil)))))))))
  (.lt (.app 32 (.cons (.psel 0 (.var 4)) (.cons (.psel 1 (.var 4)) (.cons (.psel 2 (.var 4)) (.cons (.psel 3 (.var 4)) (.cons (.var 0) (.cons (.var 1) (.cons (.var 2) (.cons (.var 3) .nil)))))))) 0) 1
  (.ret (.cons (.var 5) .nil))))
theorem e31 : (fnVT Try.prog (sgOf sg31) (ltOf lt31) S31 Try.f31 c31).slim (S31.ps.map fun p => p.2.length).sum [] = vt31 := by kernel_rfl
def T31 : FuncId → List D → List D := tabOf [(32, fn32)]
def fn31 (ρ : List D) : List D := vt31.val T31 ρ
theorem m31 : Meets Try.prog 31 S31 (fun _ => True) fn31 := meets_easy (sgl := sg31) (Φ := T31) mixed (List.forall_mem_cons.2 ⟨m32, (fun _ h => nomatch h)⟩) Try.func31 b31 n31 k31 e31 (by kernel_rfl)

/-! ### 42 -/
def S42 : Sig := ⟨[(false, [(.sl 23 [(.int .i64), (.int .i64), (.int .i64), (.int .i64)])]), (false, [.clo])], [(false, [(.int .i64)])], [], none⟩
noncomputable def c42 : Code := Try.f42.body.getD .skip
theorem b42 : Try.f42.body = some c42 := body_some (by kernel_rfl)
theorem n42 : (Try.f42.name == "runtime.NumGoroutine") = false := by kernel_rfl
def sg42 : List (FuncId × Sig) := [(20024, S20024)]
def L42_0 : LoopSig := ⟨14200, [],
   ⟨[(.c (.x (.sl 23 [(.int .i64), (.int .i64), (.int .i64), (.int .i64)]) (.var 0))), (.c (.x .clo (.var 1))), .any, .any, (.c (.x (.int .i64) (.var 2))), .any, .any, (.c (.x (.int .i64) (.var 3))), (.c (.x (.int .i64) (.var 4))), .any, .any, .any, .any, .any, .any, .any, .any, .any, .any],
    []⟩,
   5, [2, 4], [9, 10, 5, 11, 12, 13, 14, 15, 16, 17, 4, 18, 8], [.ret, (.exit 0)]⟩
def lt42 : List (Nat × LoopSig) := [(2, L42_0)]
theorem k42 : (Code.loops c42).length = 1 := by kernel_rfl
noncomputable def lb42_0 : Code := (Code.loops c42).getD 0 .skip
def rt42_0 : VT :=
  (.ite (.bin .lt (.var 4) (.var 3))
   (.need (.t true) (.c (.bin .le (.n 0) (.var 4)))
   (.need (.t true) (.c (.bin .lt (.var 4) (.un .len (.var 0))))
   (.need (.t true) (.pre 20024 (.cons (.var 1) (.cons (.sel 0 (.var 0) (.var 4)) (.cons (.sel 1 (.var 0) (.var 4)) (.cons (.sel 2 (.var 0) (.var 4)) (.cons (.sel 3 (.var 0) (.var 4)) .nil))))))
   (.lt (.app 20024 (.cons (.var 1) (.cons (.sel 0 (.var 0) (.var 4)) (.cons (.sel 1 (.var 0) (.var 4)) (.cons (.sel 2 (.var 0) (.var 4)) (.cons (.sel 3 (.var 0) (.var 4)) .nil))))) 0) 1
   (.ite (.var 5)
    (.ret (.cons (.n 0) (.cons (.var 4) (.cons (.var 4) .nil))))
    (.ret (.cons (.n (-1)) (.cons (.var 2) (.cons (.bin (.add .i64) (.var 4) (.n 1)) .nil)))))))))
   (.ret (.cons (.n 1) (.cons (.var 2) (.cons (.var 4) .nil)))))
theorem le42_0 : (loopVT Try.prog (sgOf sg42) (ltOf lt42) L42_0 lb42_0).slim L42_0.nv [] = rt42_0 := by kernel_rfl
theorem lf42_0 : (firstRegion lb42_0).bind (ltOf lt42) = some L42_0 := by kernel_rfl
theorem lk42_0 : (Code.loops lb42_0).length = 0 := by kernel_rfl
def vt42 : VT :=
  (.need (.t true) (.pre 14200 (.cons (.var 0) (.cons (.var 1) (.cons (.n 0) (.cons (.un .len (.var 0)) (.cons (.n 0) .nil))))))
  (.lt (.app 14200 (.cons (.var 0) (.cons (.var 1) (.cons (.n 0) (.cons (.un .len (.var 0)) (.cons (.n 0) .nil))))) 0) 3
  (.ite (.bin .eq (.var 2) (.n 0))
   (.ret (.cons (.var 3) .nil))
   (.ret (.cons (.n (-1)) .nil)))))
theorem e42 : (fnVT Try.prog (sgOf sg42) (ltOf lt42) S42 Try.f42 c42).slim (S42.ps.map fun p => p.2.length).sum [] = vt42 := by kernel_rfl

/-! ### 30 -/
def S30 : Sig := ⟨[(false, [(.sl 23 [(.int .i64), (.int .i64), (.int .i64), (.int .i64)])]), (false, [.clo])], [(false, [.bool])], [], none⟩
noncomputable def c30 : Code := Try.f30.body.getD .skip
theorem b30 : Try.f30.body = some c30 := body_some (by kernel_rfl)
theorem n30 : (Try.f30.name == "runtime.NumGoroutine") = false := by kernel_rfl
def sg30 : List (FuncId × Sig) := [(42, S42)]
def lt30 : List (Nat × LoopSig) := []
theorem k30 : (Code.loops c30).length = 0 := by kernel_rfl
def vt30 : VT :=
  (.need (.t true) (.pre 42 (.cons (.var 0) (.cons (.var 1) .nil)))
  (.lt (.app 42 (.cons (.var 0) (.cons (.var 1) .nil)) 0) 1
  (.ret (.cons (.bin .le (.n 0) (.var 2)) .nil))))
theorem e30 : (fnVT Try.prog (sgOf sg30) (ltOf lt30) S30 Try.f30 c30).slim (S30.ps.map fun p => p.2.length).sum [] = vt30 := by kernel_rfl

/-! ### 16 -/
def S16 : Sig := ⟨[(false, [(.sl 23 [(.int .i64), (.int .i64), (.int .i64), (.int .i64)])]), (false, [(.sl 23 [(.int .i64), (.int .i64), (.int .i64), (.int .i64)])])], [(false, [(.sl 3 [(.int .i64)])])], [], none⟩
noncomputable def c16 : Code := Try.f16.body.getD .skip
theorem b16 : Try.f16.body = some c16 := body_some (by kernel_rfl)
theorem n16 : (Try.f16.name == "runtime.NumGoroutine") = false := by kernel_rfl
def sg16 : List (FuncId × Sig) := [(21, S21), (30, S30)]
def L16_0 : LoopSig := ⟨11600, [(5, none, 3)],
   ⟨[.any, (.c (.x (.sl 23 [(.int .i64), (.int .i64), (.int .i64), (.int .i64)]) (.var 0))), .any, .any, .any, (.c (.row 0 1)), .any, .any, (.c (.x (.sl 23 [(.int .i64), (.int .i64), (.int .i64), (.int .i64)]) (.var 1))), (.c (.x (.int .i64) (.var 2))), (.c (.x (.int .i64) (.var 3))), .any, .any, .any, .any, .any, .any, .any, .any, .any, .any, .any, .any, .any, .any, .any, .any, .any, .any],
    [some ⟨(.t true), (.row 3 [(.int .i64)] (.var 4) 1 false)⟩]⟩,
   5, [3, 4], [11, 12, 13, 14, 7, 6, 15, 16, 17, 18, 19, 20, 21, 22, 23, 24, 25, 26, 5, 27, 10], [(.exit 0)]⟩
def lt16 : List (Nat × LoopSig) := [(3, L16_0)]
theorem k16 : (Code.loops c16).length = 1 := by kernel_rfl
noncomputable def lb16_0 : Code := (Code.loops c16).getD 0 .skip
def rt16_0 : VT :=
  (.ite (.bin .lt (.var 3) (.var 2))
   (.need (.t true) (.c (.bin .le (.n 0) (.var 3)))
   (.need (.t true) (.c (.bin .lt (.var 3) (.un .len (.var 1))))
   (.need (.t true) (.pre 21 (.cons (.sel 0 (.var 1) (.var 3)) (.cons (.sel 1 (.var 1) (.var 3)) (.cons (.sel 2 (.var 1) (.var 3)) (.cons (.sel 3 (.var 1) (.var 3)) .nil)))))
   (.lt (.app 21 (.cons (.sel 0 (.var 1) (.var 3)) (.cons (.sel 1 (.var 1) (.var 3)) (.cons (.sel 2 (.var 1) (.var 3)) (.cons (.sel 3 (.var 1) (.var 3)) .nil)))) 0) 1
   (.need (.var 5) (.pre 30 (.cons (.var 0) (.cons (.clo 31 [(.pt [(.int .i64), (.int .i64), (.int .i64), (.int .i64)])] (.cons (.pk (.cons (.sel 0 (.var 1) (.var 3)) (.cons (.sel 1 (.var 1) (.var 3)) (.cons (.sel 2 (.var 1) (.var 3)) (.cons (.sel 3 (.var 1) (.var 3)) .nil))))) .nil)) .nil)))
   (.lt (.app 30 (.cons (.var 0) (.cons (.clo 31 [(.pt [(.int .i64), (.int .i64), (.int .i64), (.int .i64)])] (.cons (.pk (.cons (.sel 0 (.var 1) (.var 3)) (.cons (.sel 1 (.var 1) (.var 3)) (.cons (.sel 2 (.var 1) (.var 3)) (.cons (.sel 3 (.var 1) (.var 3)) .nil))))) .nil)) .nil)) 0) 1
   (.ite (.ite (.var 5) (.un .not (.var 6)) (.t false))
    (.need (.t true) (.c (.bin .le (.un .len (.bin .cat (.var 4) (.lcons (.cons (.var 3) .nil) .lnil))) (.n 17592186044416)))
    (.ret (.cons (.n (-1)) (.cons (.bin (.add .i64) (.var 3) (.n 1)) (.cons (.bin .cat (.var 4) (.lcons (.cons (.var 3) .nil) .lnil)) .nil)))))
    (.ret (.cons (.n (-1)) (.cons (.bin (.add .i64) (.var 3) (.n 1)) (.cons (.var 4) .nil)))))))))))
   (.ret (.cons (.n 0) (.cons (.var 3) (.cons (.var 4) .nil)))))
theorem le16_0 : (loopVT Try.prog (sgOf sg16) (ltOf lt16) L16_0 lb16_0).slim L16_0.nv [] = rt16_0 := by kernel_rfl
theorem lf16_0 : (firstRegion lb16_0).bind (ltOf lt16) = some L16_0 := by kernel_rfl
theorem lk16_0 : (Code.loops lb16_0).length = 0 := by kernel_rfl
def vt16 : VT :=
  (.need (.t true) (.pre 11600 (.cons (.var 1) (.cons (.var 0) (.cons (.un .len (.var 0)) (.cons (.n 0) (.cons .lnil .nil))))))
  (.lt (.app 11600 (.cons (.var 1) (.cons (.var 0) (.cons (.un .len (.var 0)) (.cons (.n 0) (.cons .lnil .nil))))) 0) 3
  (.ret (.cons (.var 4) .nil))))
theorem e16 : (fnVT Try.prog (sgOf sg16) (ltOf lt16) S16 Try.f16 c16).slim (S16.ps.map fun p => p.2.length).sum [] = vt16 := by kernel_rfl

/-! ### 15 -/
def S15 : Sig := ⟨[(false, [(.sl 3 [(.int .i64)])]), (false, [(.sl 3 [(.int .i64)])])], [(false, [.bool])], [], none⟩
noncomputable def c15 : Code := Try.f15.body.getD .skip
theorem b15 : Try.f15.body = some c15 := body_some (by kernel_rfl)
theorem n15 : (Try.f15.name == "runtime.NumGoroutine") = false := by kernel_rfl
def sg15 : List (FuncId × Sig) := []
def L15_0 : LoopSig := ⟨11500, [],
   ⟨[(.c (.x (.sl 3 [(.int .i64)]) (.var 0))), (.c (.x (.sl 3 [(.int .i64)]) (.var 1))), .any, .any, (.c (.x .bool (.var 2))), (.c (.x (.int .i64) (.var 3))), .any, .any, .any, .any, .any, .any, .any, .any, .any, .any, .any, .any, .any, .any, .any, .any, .any, .any, .any, .any],
    []⟩,
   4, [2, 3], [11, 12, 13, 14, 17, 18, 19, 20, 21, 22, 23, 24, 25, 4, 15, 16, 5], [.ret, (.exit 0)]⟩
def lt15 : List (Nat × LoopSig) := [(4, L15_0)]
theorem k15 : (Code.loops c15).length = 1 := by kernel_rfl
noncomputable def lb15_0 : Code := (Code.loops c15).getD 0 .skip
def rt15_0 : VT :=
  (.ite (.bin .lt (.var 3) (.un .len (.var 0)))
   (.need (.t true) (.c (.bin .le (.n 0) (.var 3)))
   (.need (.t true) (.c (.bin .lt (.var 3) (.un .len (.var 1))))
   (.ite (.un .not (.bin .eq (.sel 0 (.var 0) (.var 3)) (.sel 0 (.var 1) (.var 3))))
    (.ret (.cons (.n 0) (.cons (.t false) (.cons (.var 3) .nil))))
    (.ret (.cons (.n (-1)) (.cons (.var 2) (.cons (.bin (.add .i64) (.var 3) (.n 1)) .nil)))))))
   (.ret (.cons (.n 1) (.cons (.var 2) (.cons (.var 3) .nil)))))
theorem le15_0 : (loopVT Try.prog (sgOf sg15) (ltOf lt15) L15_0 lb15_0).slim L15_0.nv [] = rt15_0 := by kernel_rfl
theorem lf15_0 : (firstRegion lb15_0).bind (ltOf lt15) = some L15_0 := by kernel_rfl
theorem lk15_0 : (Code.loops lb15_0).length = 0 := by kernel_rfl
def vt15 : VT :=
  (.ite (.un .not (.bin .eq (.un .len (.var 0)) (.un .len (.var 1))))
   (.ret (.cons (.t false) .nil))
   (.need (.t true) (.pre 11500 (.cons (.var 0) (.cons (.var 1) (.cons (.t false) (.cons (.n 0) .nil)))))
   (.lt (.app 11500 (.cons (.var 0) (.cons (.var 1) (.cons (.t false) (.cons (.n 0) .nil)))) 0) 3
   (.ite (.bin .eq (.var 2) (.n 0))
    (.ret (.cons (.var 3) .nil))
    (.ret (.cons (.t true) .nil))))))
theorem e15 : (fnVT Try.prog (sgOf sg15) (ltOf lt15) S15 Try.f15 c15).slim (S15.ps.map fun p => p.2.length).sum [] = vt15 := by kernel_rfl

/-! ### 12 -/
def S12 : Sig := ⟨[], [(false, [.bool])], [], none⟩
noncomputable def c12 : Code := Try.f12.body.getD .skip
theorem b12 : Try.f12.body = some c12 := body_some (by kernel_rfl)
theorem n12 : (Try.f12.name == "runtime.NumGoroutine") = false := by kernel_rfl
def sg12 : List (FuncId × Sig) := [(10, S10), (13, S13), (9, S9), (16, S16), (15, S15)]
def lt12 : List (Nat × LoopSig) := []
theorem k12 : (Code.loops c12).length = 0 := by kernel_rfl
def vt12 : VT :=
  (.need (.t true) (.pre 10 (.cons (.n 0) (.cons (.n 0) (.cons (.n 10) (.cons (.n 10) (.cons (.n 4) (.cons (.n 2) (.cons (.n 1) .nil))))))))
  (.lt (.app 10 (.cons (.n 0) (.cons (.n 0) (.cons (.n 10) (.cons (.n 10) (.cons (.n 4) (.cons (.n 2) (.cons (.n 1) .nil))))))) 0) 1
  (.need (.t true) (.pre 13 (.cons (.lcons (.cons (.n 0) (.cons (.n 0) .nil)) (.lcons (.cons (.n 10) (.cons (.n 0) .nil)) (.lcons (.cons (.n 10) (.cons (.n 30) .nil)) .lnil))) (.cons (.n 4) (.cons (.n 2) (.cons (.n 1) .nil)))))
  (.lt (.app 13 (.cons (.lcons (.cons (.n 0) (.cons (.n 0) .nil)) (.lcons (.cons (.n 10) (.cons (.n 0) .nil)) (.lcons (.cons (.n 10) (.cons (.n 30) .nil)) .lnil))) (.cons (.n 4) (.cons (.n 2) (.cons (.n 1) .nil)))) 0) 1
  (.need (.bin .eq (.un .len (.var 0)) (.n 8)) (.c (.bin .lt (.n 0) (.un .len (.var 0))))
  (.need (.ite (.bin .eq (.un .len (.var 0)) (.n 8)) (.ite (.bin .eq (.sel 0 (.var 0) (.n 0)) (.n 3)) (.ite (.bin .eq (.sel 1 (.var 0) (.n 0)) (.n (-3))) (.ite (.bin .eq (.sel 2 (.var 0) (.n 0)) (.n 7)) (.bin .eq (.sel 3 (.var 0) (.n 0)) (.n (-1))) (.t false)) (.t false)) (.t false)) (.t false)) (.c (.bin .lt (.n 6) (.un .len (.var 0))))
  (.need (.ite (.ite (.bin .eq (.un .len (.var 0)) (.n 8)) (.ite (.bin .eq (.sel 0 (.var 0) (.n 0)) (.n 3)) (.ite (.bin .eq (.sel 1 (.var 0) (.n 0)) (.n (-3))) (.ite (.bin .eq (.sel 2 (.var 0) (.n 0)) (.n 7)) (.bin .eq (.sel 3 (.var 0) (.n 0)) (.n (-1))) (.t false)) (.t false)) (.t false)) (.t false)) (.ite (.bin .eq (.sel 0 (.var 0) (.n 6)) (.n (-5))) (.ite (.bin .eq (.sel 1 (.var 0) (.n 6)) (.n 4)) (.ite (.bin .eq (.sel 2 (.var 0) (.n 6)) (.n (-1))) (.bin .eq (.sel 3 (.var 0) (.n 6)) (.n 6)) (.t false)) (.t false)) (.t false)) (.t false)) (.pre 9 (.cons (.var 1) (.cons (.lcons (.cons (.n 3) (.cons (.n (-3)) (.cons (.n 7) (.cons (.n (-1)) .nil)))) (.lcons (.cons (.n 3) (.cons (.n 1) (.cons (.n 7) (.cons (.n 3) .nil)))) (.lcons (.cons (.n 11) (.cons (.n 14) (.cons (.n 15) (.cons (.n 16) .nil)))) (.lcons (.cons (.n 5) (.cons (.n 14) (.cons (.n 9) (.cons (.n 16) .nil)))) .lnil)))) .nil)))
  (.lt (.app 9 (.cons (.var 1) (.cons (.lcons (.cons (.n 3) (.cons (.n (-3)) (.cons (.n 7) (.cons (.n (-1)) .nil)))) (.lcons (.cons (.n 3) (.cons (.n 1) (.cons (.n 7) (.cons (.n 3) .nil)))) (.lcons (.cons (.n 11) (.cons (.n 14) (.cons (.n 15) (.cons (.n 16) .nil)))) (.lcons (.cons (.n 5) (.cons (.n 14) (.cons (.n 9) (.cons (.n 16) .nil)))) .lnil)))) .nil)) 0) 1
  (.need (.ite (.ite (.ite (.bin .eq (.un .len (.var 0)) (.n 8)) (.ite (.bin .eq (.sel 0 (.var 0) (.n 0)) (.n 3)) (.ite (.bin .eq (.sel 1 (.var 0) (.n 0)) (.n (-3))) (.ite (.bin .eq (.sel 2 (.var 0) (.n 0)) (.n 7)) (.bin .eq (.sel 3 (.var 0) (.n 0)) (.n (-1))) (.t false)) (.t false)) (.t false)) (.t false)) (.ite (.bin .eq (.sel 0 (.var 0) (.n 6)) (.n (-5))) (.ite (.bin .eq (.sel 1 (.var 0) (.n 6)) (.n 4)) (.ite (.bin .eq (.sel 2 (.var 0) (.n 6)) (.n (-1))) (.bin .eq (.sel 3 (.var 0) (.n 6)) (.n 6)) (.t false)) (.t false)) (.t false)) (.t false)) (.var 2) (.t false)) (.pre 16 (.cons (.var 1) (.cons (.lcons (.cons (.n 4) (.cons (.n 0) (.cons (.n 6) (.cons (.n 20) .nil)))) .lnil) .nil)))
  (.lt (.app 16 (.cons (.var 1) (.cons (.lcons (.cons (.n 4) (.cons (.n 0) (.cons (.n 6) (.cons (.n 20) .nil)))) .lnil) .nil)) 0) 1
  (.need (.ite (.ite (.ite (.bin .eq (.un .len (.var 0)) (.n 8)) (.ite (.bin .eq (.sel 0 (.var 0) (.n 0)) (.n 3)) (.ite (.bin .eq (.sel 1 (.var 0) (.n 0)) (.n (-3))) (.ite (.bin .eq (.sel 2 (.var 0) (.n 0)) (.n 7)) (.bin .eq (.sel 3 (.var 0) (.n 0)) (.n (-1))) (.t false)) (.t false)) (.t false)) (.t false)) (.ite (.bin .eq (.sel 0 (.var 0) (.n 6)) (.n (-5))) (.ite (.bin .eq (.sel 1 (.var 0) (.n 6)) (.n 4)) (.ite (.bin .eq (.sel 2 (.var 0) (.n 6)) (.n (-1))) (.bin .eq (.sel 3 (.var 0) (.n 6)) (.n 6)) (.t false)) (.t false)) (.t false)) (.t false)) (.var 2) (.t false)) (.pre 15 (.cons (.var 3) (.cons (.lcons (.cons (.n 0) .nil) (.lcons (.cons (.n 2) .nil) .lnil)) .nil)))
  (.lt (.app 15 (.cons (.var 3) (.cons (.lcons (.cons (.n 0) .nil) (.lcons (.cons (.n 2) .nil) .lnil)) .nil)) 0) 1
  (.need (.ite (.ite (.ite (.ite (.bin .eq (.un .len (.var 0)) (.n 8)) (.ite (.bin .eq (.sel 0 (.var 0) (.n 0)) (.n 3)) (.ite (.bin .eq (.sel 1 (.var 0) (.n 0)) (.n (-3))) (.ite (.bin .eq (.sel 2 (.var 0) (.n 0)) (.n 7)) (.bin .eq (.sel 3 (.var 0) (.n 0)) (.n (-1))) (.t false)) (.t false)) (.t false)) (.t false)) (.ite (.bin .eq (.sel 0 (.var 0) (.n 6)) (.n (-5))) (.ite (.bin .eq (.sel 1 (.var 0) (.n 6)) (.n 4)) (.ite (.bin .eq (.sel 2 (.var 0) (.n 6)) (.n (-1))) (.bin .eq (.sel 3 (.var 0) (.n 6)) (.n 6)) (.t false)) (.t false)) (.t false)) (.t false)) (.var 2) (.t false)) (.var 4) (.t false)) (.pre 10 (.cons (.n 0) (.cons (.n 0) (.cons (.n 0) (.cons (.n 0) (.cons (.n (-1)) (.cons (.n 0) (.cons (.n 0) .nil))))))))
  (.lt (.app 10 (.cons (.n 0) (.cons (.n 0) (.cons (.n 0) (.cons (.n 0) (.cons (.n (-1)) (.cons (.n 0) (.cons (.n 0) .nil))))))) 0) 1
  (.ret (.cons (.ite (.ite (.ite (.ite (.ite (.bin .eq (.un .len (.var 0)) (.n 8)) (.ite (.bin .eq (.sel 0 (.var 0) (.n 0)) (.n 3)) (.ite (.bin .eq (.sel 1 (.var 0) (.n 0)) (.n (-3))) (.ite (.bin .eq (.sel 2 (.var 0) (.n 0)) (.n 7)) (.bin .eq (.sel 3 (.var 0) (.n 0)) (.n (-1))) (.t false)) (.t false)) (.t false)) (.t false)) (.ite (.bin .eq (.sel 0 (.var 0) (.n 6)) (.n (-5))) (.ite (.bin .eq (.sel 1 (.var 0) (.n 6)) (.n 4)) (.ite (.bin .eq (.sel 2 (.var 0) (.n 6)) (.n (-1))) (.bin .eq (.sel 3 (.var 0) (.n 6)) (.n 6)) (.t false)) (.t false)) (.t false)) (.t false)) (.var 2) (.t false)) (.var 4) (.t false)) (.bin .eq (.un .len (.var 5)) (.n 0)) (.t false)) .nil))))))))))))))))
theorem e12 : (fnVT Try.prog (sgOf sg12) (ltOf lt12) S12 Try.f12 c12).slim (S12.ps.map fun p => p.2.length).sum [] = vt12 := by kernel_rfl

/-! ### 3 -/
def S3 : Sig := ⟨[(true, [(.int .i64), (.int .i64), (.int .i64), (.int .i64)]), (true, [(.int .i64), (.int .i64), (.int .i64)])], [(false, [.bool])], [], none⟩
noncomputable def c3 : Code := Try.f3.body.getD .skip
theorem b3 : Try.f3.body = some c3 := body_some (by kernel_rfl)
theorem n3 : (Try.f3.name == "runtime.NumGoroutine") = false := by kernel_rfl
def sg3 : List (FuncId × Sig) := [(10, S10), (11, S11), (9, S9), (12, S12)]
def lt3 : List (Nat × LoopSig) := []
theorem k3 : (Code.loops c3).length = 0 := by kernel_rfl
def vt3 : VT :=
  (.need (.t true) (.pre 10 (.cons (.var 0) (.cons (.var 1) (.cons (.var 2) (.cons (.var 3) (.cons (.var 4) (.cons (.var 5) (.cons (.var 6) .nil))))))))
  (.lt (.app 10 (.cons (.var 0) (.cons (.var 1) (.cons (.var 2) (.cons (.var 3) (.cons (.var 4) (.cons (.var 5) (.cons (.var 6) .nil))))))) 0) 1
  (.need (.t true) (.pre 11 (.cons (.var 0) (.cons (.var 1) (.cons (.var 2) (.cons (.var 3) (.cons (.var 4) (.cons (.var 5) (.cons (.var 6) .nil))))))))
  (.lt (.app 11 (.cons (.var 0) (.cons (.var 1) (.cons (.var 2) (.cons (.var 3) (.cons (.var 4) (.cons (.var 5) (.cons (.var 6) .nil))))))) 0) 1
  (.need (.t true) (.pre 9 (.cons (.var 7) (.cons (.var 8) .nil)))
  (.lt (.app 9 (.cons (.var 7) (.cons (.var 8) .nil)) 0) 1
  (.need (.var 9) (.pre 12 .nil)
  (.lt (.app 12 .nil 0) 1
  (.ret (.cons (.ite (.var 9) (.var 10) (.t false)) .nil))))))))))
theorem e3 : (fnVT Try.prog (sgOf sg3) (ltOf lt3) S3 Try.f3 c3).slim (S3.ps.map fun p => p.2.length).sum [] = vt3 := by kernel_rfl

/-! ### 34 -/
def S34 : Sig := ⟨[(true, [(.int .i64), (.int .i64)])], [(false, [.bool])], [], none⟩
noncomputable def c34 : Code := Try.f34.body.getD .skip
theorem b34 : Try.f34.body = some c34 := body_some (by kernel_rfl)
theorem n34 : (Try.f34.name == "runtime.NumGoroutine") = false := by kernel_rfl
def sg34 : List (FuncId × Sig) := []
def lt34 : List (Nat × LoopSig) := []
theorem k34 : (Code.loops c34).length = 0 := by kernel_rfl
def vt34 : VT :=
  (.ret (.cons (.ite (.ite (.ite (.bin .le (.n (-268435456)) (.var 0)) (.bin .le (.var 0) (.n 268435456)) (.t false)) (.bin .le (.n (-268435456)) (.var 1)) (.t false)) (.bin .le (.var 1) (.n 268435456)) (.t false)) .nil))
theorem e34 : (fnVT Try.prog (sgOf sg34) (ltOf lt34) S34 Try.f34 c34).slim (S34.ps.map fun p => p.2.length).sum [] = vt34 := by kernel_rfl
def T34 : FuncId → List D → List D := tabOf []
def fn34 (ρ : List D) : List D := vt34.val T34 ρ
theorem m34 : Meets Try.prog 34 S34 (fun _ => True) fn34 := meets_easy (sgl := sg34) (Φ := T34) mixed ((fun _ h => nomatch h)) Try.func34 b34 n34 k34 e34 (by kernel_rfl)

/-! ### 19 -/
def S19 : Sig := ⟨[(false, [(.sl 45 [(.int .i64), (.int .i64)])])], [(false, [.bool])], [], none⟩
noncomputable def c19 : Code := Try.f19.body.getD .skip
theorem b19 : Try.f19.body = some c19 := body_some (by kernel_rfl)
theorem n19 : (Try.f19.name == "runtime.NumGoroutine") = false := by kernel_rfl
def sg19 : List (FuncId × Sig) := [(34, S34)]
def L19_0 : LoopSig := ⟨11900, [],
   ⟨[(.c (.x (.sl 45 [(.int .i64), (.int .i64)]) (.var 0))), .any, (.c (.x .bool (.var 1))), (.c (.x (.int .i64) (.var 2))), .any, .any, .any, .any, .any, .any, .any, .any, .any, .any, .any, .any, .any, .any, .any, .any, .any, .any, .any, .any, .any, .any, .any, .any, .any, .any, .any, .any, .any, .any, .any, .any, .any, .any, .any, .any],
    []⟩,
   3, [1, 2], [12, 13, 14, 15, 18, 19, 20, 21, 22, 23, 24, 25, 26, 27, 28, 29, 30, 31, 32, 33, 34, 35, 36, 37, 38, 39, 2, 16, 17, 3], [.ret, (.exit 0)]⟩
def lt19 : List (Nat × LoopSig) := [(4, L19_0)]
theorem k19 : (Code.loops c19).length = 1 := by kernel_rfl
noncomputable def lb19_0 : Code := (Code.loops c19).getD 0 .skip
def rt19_0 : VT :=
  (.ite (.bin .lt (.var 2) (.un .len (.var 0)))
   (.need (.t true) (.c (.bin .le (.n 0) (.var 2)))
   (.need (.t true) (.pre 34 (.cons (.sel 0 (.var 0) (.var 2)) (.cons (.sel 1 (.var 0) (.var 2)) .nil)))
   (.lt (.app 34 (.cons (.sel 0 (.var 0) (.var 2)) (.cons (.sel 1 (.var 0) (.var 2)) .nil)) 0) 1
   (.need (.ite (.var 3) (.bin .lt (.n 0) (.var 2)) (.t false)) (.c (.bin .le (.n 0) (.bin (.sub .i64) (.var 2) (.n 1))))
   (.need (.ite (.var 3) (.bin .lt (.n 0) (.var 2)) (.t false)) (.c (.bin .lt (.bin (.sub .i64) (.var 2) (.n 1)) (.un .len (.var 0))))
   (.ite (.ite (.un .not (.var 3)) (.t true) (.ite (.bin .lt (.n 0) (.var 2)) (.ite (.bin .eq (.sel 0 (.var 0) (.var 2)) (.sel 0 (.var 0) (.bin (.sub .i64) (.var 2) (.n 1)))) (.bin .eq (.sel 1 (.var 0) (.var 2)) (.sel 1 (.var 0) (.bin (.sub .i64) (.var 2) (.n 1)))) (.t false)) (.t false)))
    (.ret (.cons (.n 0) (.cons (.t false) (.cons (.var 2) .nil))))
    (.ret (.cons (.n (-1)) (.cons (.var 1) (.cons (.bin (.add .i64) (.var 2) (.n 1)) .nil))))))))))
   (.ret (.cons (.n 1) (.cons (.var 1) (.cons (.var 2) .nil)))))
theorem le19_0 : (loopVT Try.prog (sgOf sg19) (ltOf lt19) L19_0 lb19_0).slim L19_0.nv [] = rt19_0 := by kernel_rfl
theorem lf19_0 : (firstRegion lb19_0).bind (ltOf lt19) = some L19_0 := by kernel_rfl
theorem lk19_0 : (Code.loops lb19_0).length = 0 := by kernel_rfl
def vt19 : VT :=
  (.ite (.ite (.bin .lt (.un .len (.var 0)) (.n 1)) (.t true) (.bin .lt (.n 512) (.un .len (.var 0))))
   (.ret (.cons (.t false) .nil))
   (.need (.t true) (.pre 11900 (.cons (.var 0) (.cons (.t false) (.cons (.n 0) .nil))))
   (.lt (.app 11900 (.cons (.var 0) (.cons (.t false) (.cons (.n 0) .nil))) 0) 3
   (.ite (.bin .eq (.var 1) (.n 0))
    (.ret (.cons (.var 2) .nil))
    (.ret (.cons (.t true) .nil))))))
theorem e19 : (fnVT Try.prog (sgOf sg19) (ltOf lt19) S19 Try.f19 c19).slim (S19.ps.map fun p => p.2.length).sum [] = vt19 := by kernel_rfl

/-! ### 20 -/
def S20 : Sig := ⟨[(false, [(.sl 45 [(.int .i64), (.int .i64)])])], [(true, [(.int .i64), (.int .i64), (.int .i64), (.int .i64)])], [], none⟩
noncomputable def c20 : Code := Try.f20.body.getD .skip
theorem b20 : Try.f20.body = some c20 := body_some (by kernel_rfl)
theorem n20 : (Try.f20.name == "runtime.NumGoroutine") = false := by kernel_rfl
def sg20 : List (FuncId × Sig) := [(19, S19)]
def L20_0 : LoopSig := ⟨12000, [],
   ⟨[(.c (.x (.sl 45 [(.int .i64), (.int .i64)]) (.var 0))), .any, .any, (.c (.ptr 1 0)), (.c (.x (.int .i64) (.var 1))), .any, .any, .any, .any, .any, .any, .any, .any, .any, .any, .any, .any, .any, .any, .any, .any, .any, .any, .any, .any, .any, .any, .any, .any, .any, .any, .any, .any, .any, .any, .any, .any, .any, .any, .any, .any, .any, .any, .any, .any, .any, .any, .any, .any, .any, .any, .any, .any, .any, .any, .any, .any, .any, .any, .any, .any, .any, .any, .any, .any, .any],
    [none, some ⟨(.t true), (.box 23 [(.x (.int .i64) (.var 2)), (.x (.int .i64) (.var 3)), (.x (.int .i64) (.var 4)), (.x (.int .i64) (.var 5))] false)⟩]⟩,
   6, [1, 2, 3, 4, 5], [26, 27, 28, 29, 32, 33, 34, 35, 36, 37, 38, 39, 40, 41, 42, 43, 44, 45, 46, 47, 48, 49, 50, 51, 52, 53, 54, 55, 56, 57, 58, 59, 60, 61, 62, 63, 64, 30, 31, 4], [(.exit 0)]⟩
def lt20 : List (Nat × LoopSig) := [(5, L20_0)]
theorem k20 : (Code.loops c20).length = 1 := by kernel_rfl
noncomputable def lb20_0 : Code := (Code.loops c20).getD 0 .skip
def rt20_0 : VT :=
  (.ite (.bin .lt (.var 1) (.un .len (.var 0)))
   (.need (.t true) (.c (.bin .le (.n 0) (.var 1)))
   (.ret (.cons (.n (-1)) (.cons (.bin (.add .i64) (.var 1) (.n 1)) (.cons (.bin .min (.var 2) (.sel 0 (.var 0) (.var 1))) (.cons (.bin .min (.var 3) (.sel 1 (.var 0) (.var 1))) (.cons (.bin .max (.var 4) (.sel 0 (.var 0) (.var 1))) (.cons (.bin .max (.var 5) (.sel 1 (.var 0) (.var 1))) .nil))))))))
   (.ret (.cons (.n 0) (.cons (.var 1) (.cons (.var 2) (.cons (.var 3) (.cons (.var 4) (.cons (.var 5) .nil))))))))
theorem le20_0 : (loopVT Try.prog (sgOf sg20) (ltOf lt20) L20_0 lb20_0).slim L20_0.nv [] = rt20_0 := by kernel_rfl
theorem lf20_0 : (firstRegion lb20_0).bind (ltOf lt20) = some L20_0 := by kernel_rfl
theorem lk20_0 : (Code.loops lb20_0).length = 0 := by kernel_rfl
def vt20 : VT :=
  (.need (.t true) (.pre 19 (.cons (.var 0) .nil))
  (.lt (.app 19 (.cons (.var 0) .nil) 0) 1
  (.ite (.un .not (.var 1))
   (.ret (.cons (.n 0) (.cons (.n 0) (.cons (.n 0) (.cons (.n 0) .nil)))))
   (.need (.t true) (.c (.bin .lt (.n 0) (.un .len (.var 0))))
   (.need (.t true) (.pre 12000 (.cons (.var 0) (.cons (.n 1) (.cons (.sel 0 (.var 0) (.n 0)) (.cons (.sel 1 (.var 0) (.n 0)) (.cons (.sel 0 (.var 0) (.n 0)) (.cons (.sel 1 (.var 0) (.n 0)) .nil)))))))
   (.lt (.app 12000 (.cons (.var 0) (.cons (.n 1) (.cons (.sel 0 (.var 0) (.n 0)) (.cons (.sel 1 (.var 0) (.n 0)) (.cons (.sel 0 (.var 0) (.n 0)) (.cons (.sel 1 (.var 0) (.n 0)) .nil)))))) 0) 6
   (.ret (.cons (.var 4) (.cons (.var 5) (.cons (.var 6) (.cons (.var 7) .nil)))))))))))
theorem e20 : (fnVT Try.prog (sgOf sg20) (ltOf lt20) S20 Try.f20 c20).slim (S20.ps.map fun p => p.2.length).sum [] = vt20 := by kernel_rfl

/-! ### 14 -/
def S14 : Sig := ⟨[(false, [(.sl 45 [(.int .i64), (.int .i64)])]), (false, [(.int .i64)]), (false, [(.int .i64)]), (false, [(.int .i64)])], [(false, [(.sl 23 [(.int .i64), (.int .i64), (.int .i64), (.int .i64)])])], [], none⟩
noncomputable def c14 : Code := Try.f14.body.getD .skip
theorem b14 : Try.f14.body = some c14 := body_some (by kernel_rfl)
theorem n14 : (Try.f14.name == "runtime.NumGoroutine") = false := by kernel_rfl
def sg14 : List (FuncId × Sig) := [(19, S19), (25, S25), (20, S20), (26, S26), (18, S18)]
def L14_0 : LoopSig := ⟨11401, [],
   ⟨[(.c (.x (.sl 45 [(.int .i64), (.int .i64)]) (.var 0))), (.c (.x (.int .i64) (.var 1))), (.c (.x (.int .i64) (.var 2))), (.c (.x (.int .i64) (.var 3))), .any, .any, .any, .any, .any, (.c (.row 0 1)), (.c (.x (.int .i64) (.var 4))), .any, .any, .any, .any, .any, .any, .any, .any, .any, .any, .any, .any, .any, .any, .any, .any, .any, .any, .any, .any, .any, .any, .any, .any, .any, .any, .any, .any, .any, .any, .any, .any, .any, .any, .any, .any, .any, .any, .any, .any, .any, .any, .any, .any, .any, .any, .any, .any, .any, .any, .any, .any, .any, .any, .any, .any, .any, .any],
    [some ⟨(.t true), (.row 23 [(.int .i64), (.int .i64), (.int .i64), (.int .i64)] (.var 5) 1 false)⟩]⟩,
   6, [4, 5], [27, 28, 29, 30, 33, 34, 35, 36, 37, 38, 39, 11, 12, 40, 41, 42, 43, 44, 45, 46, 47, 48, 49, 50, 51, 13, 52, 53, 56, 57, 58, 59, 60, 61, 14, 62, 63, 64, 65, 66, 67, 9, 54, 55, 31, 32, 10], [(.exit 0)]⟩
def L14_1 : LoopSig := ⟨11400, [],
   ⟨[.any, (.c (.x (.int .i64) (.var 0))), (.c (.x (.int .i64) (.var 1))), (.c (.x (.int .i64) (.var 2))), .any, .any, .any, .any, .any, (.c (.row 0 1)), .any, (.c (.ptr 1 0)), .any, (.c (.x (.int .i64) (.var 3))), .any, .any, .any, .any, .any, .any, .any, .any, .any, .any, .any, .any, .any, .any, .any, .any, .any, .any, .any, .any, .any, .any, .any, .any, .any, .any, .any, .any, .any, .any, .any, .any, .any, .any, .any, .any, .any, .any, .any, .any, .any, .any, .any, .any, .any, .any, .any, .any, .any, .any, .any, .any, .any, .any, .any],
    [some ⟨(.t true), (.row 23 [(.int .i64), (.int .i64), (.int .i64), (.int .i64)] (.var 4) 1 false)⟩, some ⟨(.t true), (.box 23 [(.x (.int .i64) (.var 5)), (.x (.int .i64) (.var 6)), (.x (.int .i64) (.var 7)), (.x (.int .i64) (.var 8))] false)⟩]⟩,
   9, [3, 4], [52, 53, 56, 57, 58, 59, 60, 61, 14, 62, 63, 64, 65, 66, 67, 9, 54, 55, 13], [(.exit 2)]⟩
def lt14 : List (Nat × LoopSig) := [(5, L14_0), (12, L14_1)]
theorem k14 : (Code.loops c14).length = 2 := by kernel_rfl
noncomputable def lb14_0 : Code := (Code.loops c14).getD 0 .skip
noncomputable def lb14_1 : Code := (Code.loops c14).getD 1 .skip
def rt14_0 : VT :=
  (.ite (.bin .lt (.var 4) (.un .len (.var 0)))
   (.need (.t true) (.c (.bin .le (.n 0) (.bin (.sub .i64) (.var 4) (.n 1))))
   (.need (.t true) (.c (.bin .le (.bin (.sub .i64) (.var 4) (.n 1)) (.bin (.add .i64) (.var 4) (.n 1))))
   (.need (.t true) (.c (.bin .le (.bin (.add .i64) (.var 4) (.n 1)) (.un .len (.var 0))))
   (.need (.t true) (.pre 20 (.cons (.sub (.var 0) (.bin (.sub .i64) (.var 4) (.n 1)) (.bin (.add .i64) (.var 4) (.n 1))) .nil))
   (.lt (.app 20 (.cons (.sub (.var 0) (.bin (.sub .i64) (.var 4) (.n 1)) (.bin (.add .i64) (.var 4) (.n 1))) .nil) 0) 4
   (.ite (.bin .lt (.bin (.sub .i64) (.var 8) (.var 6)) (.bin (.sub .i64) (.var 9) (.var 7)))
    (.need (.t true) (.pre 11400 (.cons (.var 1) (.cons (.var 2) (.cons (.var 3) (.cons (.n 2) (.cons (.var 5) (.cons (.var 6) (.cons (.var 7) (.cons (.var 8) (.cons (.var 9) .nil))))))))))
    (.lt (.app 11400 (.cons (.var 1) (.cons (.var 2) (.cons (.var 3) (.cons (.n 2) (.cons (.var 5) (.cons (.var 6) (.cons (.var 7) (.cons (.var 8) (.cons (.var 9) .nil))))))))) 0) 3
    (.ret (.cons (.n (-1)) (.cons (.bin (.add .i64) (.var 4) (.n 1)) (.cons (.var 12) .nil))))))
    (.need (.t true) (.pre 11400 (.cons (.var 1) (.cons (.var 2) (.cons (.var 3) (.cons (.n 0) (.cons (.var 5) (.cons (.var 6) (.cons (.var 7) (.cons (.var 8) (.cons (.var 9) .nil))))))))))
    (.lt (.app 11400 (.cons (.var 1) (.cons (.var 2) (.cons (.var 3) (.cons (.n 0) (.cons (.var 5) (.cons (.var 6) (.cons (.var 7) (.cons (.var 8) (.cons (.var 9) .nil))))))))) 0) 3
    (.ret (.cons (.n (-1)) (.cons (.bin (.add .i64) (.var 4) (.n 1)) (.cons (.var 12) .nil))))))))))))
   (.ret (.cons (.n 0) (.cons (.var 4) (.cons (.var 5) .nil)))))
theorem le14_0 : (loopVT Try.prog (sgOf sg14) (ltOf lt14) L14_0 lb14_0).slim L14_0.nv [] = rt14_0 := by kernel_rfl
theorem lf14_0 : (firstRegion lb14_0).bind (ltOf lt14) = some L14_0 := by kernel_rfl
theorem lk14_0 : (Code.loops lb14_0).length = 1 := by kernel_rfl
theorem li14_0_0 : (Code.loops lb14_0).getD 0 .skip = lb14_1 := by kernel_rfl
def rt14_1 : VT :=
  (.ite (.bin .lt (.var 3) (.n 8))
   (.need (.t true) (.pre 26 (.cons (.var 5) (.cons (.var 6) (.cons (.var 7) (.cons (.var 8) (.cons (.var 0) (.cons (.var 1) (.cons (.var 2) (.cons (.var 3) .nil)))))))))
   (.lt (.app 26 (.cons (.var 5) (.cons (.var 6) (.cons (.var 7) (.cons (.var 8) (.cons (.var 0) (.cons (.var 1) (.cons (.var 2) (.cons (.var 3) .nil)))))))) 0) 4
   (.need (.t true) (.pre 18 (.cons (.var 9) (.cons (.var 10) (.cons (.var 11) (.cons (.var 12) .nil)))))
   (.lt (.app 18 (.cons (.var 9) (.cons (.var 10) (.cons (.var 11) (.cons (.var 12) .nil)))) 0) 1
   (.ite (.var 13)
    (.need (.t true) (.c (.bin .le (.un .len (.bin .cat (.var 4) (.lcons (.cons (.var 9) (.cons (.var 10) (.cons (.var 11) (.cons (.var 12) .nil)))) .lnil))) (.n 4398046511104)))
    (.ret (.cons (.n (-1)) (.cons (.bin (.add .i64) (.var 3) (.n 4)) (.cons (.bin .cat (.var 4) (.lcons (.cons (.var 9) (.cons (.var 10) (.cons (.var 11) (.cons (.var 12) .nil)))) .lnil)) .nil)))))
    (.ret (.cons (.n (-1)) (.cons (.bin (.add .i64) (.var 3) (.n 4)) (.cons (.var 4) .nil)))))))))
   (.ret (.cons (.n 0) (.cons (.var 3) (.cons (.var 4) .nil)))))
theorem le14_1 : (loopVT Try.prog (sgOf sg14) (ltOf lt14) L14_1 lb14_1).slim L14_1.nv [] = rt14_1 := by kernel_rfl
theorem lf14_1 : (firstRegion lb14_1).bind (ltOf lt14) = some L14_1 := by kernel_rfl
theorem lk14_1 : (Code.loops lb14_1).length = 0 := by kernel_rfl
def vt14 : VT :=
  (.need (.t true) (.pre 19 (.cons (.var 0) .nil))
  (.lt (.app 19 (.cons (.var 0) .nil) 0) 1
  (.need (.var 4) (.pre 25 (.cons (.var 1) (.cons (.var 2) (.cons (.var 3) .nil))))
  (.lt (.app 25 (.cons (.var 1) (.cons (.var 2) (.cons (.var 3) .nil))) 0) 1
  (.ite (.ite (.un .not (.var 4)) (.t true) (.un .not (.var 5)))
   (.ret (.cons .lnil .nil))
   (.need (.t true) (.pre 11401 (.cons (.var 0) (.cons (.var 1) (.cons (.var 2) (.cons (.var 3) (.cons (.n 1) (.cons .lnil .nil)))))))
   (.lt (.app 11401 (.cons (.var 0) (.cons (.var 1) (.cons (.var 2) (.cons (.var 3) (.cons (.n 1) (.cons .lnil .nil)))))) 0) 3
   (.ret (.cons (.var 8) .nil)))))))))
theorem e14 : (fnVT Try.prog (sgOf sg14) (ltOf lt14) S14 Try.f14 c14).slim (S14.ps.map fun p => p.2.length).sum [] = vt14 := by kernel_rfl

/-! ### 4 -/
def S4 : Sig := ⟨[(false, [(.sl 45 [(.int .i64), (.int .i64)])]), (true, [(.int .i64), (.int .i64), (.int .i64)])], [(false, [.bool])], [], none⟩
noncomputable def c4 : Code := Try.f4.body.getD .skip
theorem b4 : Try.f4.body = some c4 := body_some (by kernel_rfl)
theorem n4 : (Try.f4.name == "runtime.NumGoroutine") = false := by kernel_rfl
def sg4 : List (FuncId × Sig) := [(12, S12), (13, S13), (14, S14), (9, S9)]
def lt4 : List (Nat × LoopSig) := []
theorem k4 : (Code.loops c4).length = 0 := by kernel_rfl
def vt4 : VT :=
  (.ite (.bin .lt (.n 600) (.un .len (.var 0)))
   (.need (.t true) (.pre 12 .nil)
   (.lt (.app 12 .nil 0) 1
   (.ret (.cons (.var 4) .nil))))
   (.need (.t true) (.pre 13 (.cons (.var 0) (.cons (.var 1) (.cons (.var 2) (.cons (.var 3) .nil)))))
   (.lt (.app 13 (.cons (.var 0) (.cons (.var 1) (.cons (.var 2) (.cons (.var 3) .nil)))) 0) 1
   (.need (.t true) (.pre 14 (.cons (.var 0) (.cons (.var 1) (.cons (.var 2) (.cons (.var 3) .nil)))))
   (.lt (.app 14 (.cons (.var 0) (.cons (.var 1) (.cons (.var 2) (.cons (.var 3) .nil)))) 0) 1
   (.need (.t true) (.pre 9 (.cons (.var 4) (.cons (.var 5) .nil)))
   (.lt (.app 9 (.cons (.var 4) (.cons (.var 5) .nil)) 0) 1
   (.need (.var 6) (.pre 12 .nil)
   (.lt (.app 12 .nil 0) 1
   (.ret (.cons (.ite (.var 6) (.var 7) (.t false)) .nil)))))))))))
theorem e4 : (fnVT Try.prog (sgOf sg4) (ltOf lt4) S4 Try.f4 c4).slim (S4.ps.map fun p => p.2.length).sum [] = vt4 := by kernel_rfl

/-! ### 33 -/
def S33 : Sig := ⟨[(true, [(.int .i64), (.int .i64), (.int .i64), (.int .i64)]), (true, [(.int .i64), (.int .i64), (.int .i64), (.int .i64)])], [(false, [.bool])], [], none⟩
noncomputable def c33 : Code := Try.f33.body.getD .skip
theorem b33 : Try.f33.body = some c33 := body_some (by kernel_rfl)
theorem n33 : (Try.f33.name == "runtime.NumGoroutine") = false := by kernel_rfl
def sg33 : List (FuncId × Sig) := [(18, S18)]
def lt33 : List (Nat × LoopSig) := []
theorem k33 : (Code.loops c33).length = 0 := by kernel_rfl
def vt33 : VT :=
  (.need (.t true) (.pre 18 (.cons (.var 0) (.cons (.var 1) (.cons (.var 2) (.cons (.var 3) .nil)))))
  (.lt (.app 18 (.cons (.var 0) (.cons (.var 1) (.cons (.var 2) (.cons (.var 3) .nil)))) 0) 1
  (.need (.var 8) (.pre 18 (.cons (.var 4) (.cons (.var 5) (.cons (.var 6) (.cons (.var 7) .nil)))))
  (.lt (.app 18 (.cons (.var 4) (.cons (.var 5) (.cons (.var 6) (.cons (.var 7) .nil)))) 0) 1
  (.ret (.cons (.ite (.ite (.ite (.var 8) (.var 9) (.t false)) (.bin .lt (.bin .max (.var 0) (.var 4)) (.bin .min (.var 2) (.var 6))) (.t false)) (.bin .lt (.bin .max (.var 1) (.var 5)) (.bin .min (.var 3) (.var 7))) (.t false)) .nil))))))
theorem e33 : (fnVT Try.prog (sgOf sg33) (ltOf lt33) S33 Try.f33 c33).slim (S33.ps.map fun p => p.2.length).sum [] = vt33 := by kernel_rfl
def T33 : FuncId → List D → List D := tabOf [(18, fn18)]
def fn33 (ρ : List D) : List D := vt33.val T33 ρ
theorem m33 : Meets Try.prog 33 S33 (fun _ => True) fn33 := meets_easy (sgl := sg33) (Φ := T33) mixed (List.forall_mem_cons.2 ⟨m18, (fun _ h => nomatch h)⟩) Try.func33 b33 n33 k33 e33 (by kernel_rfl)

/-! ### 17 -/
def S17 : Sig := ⟨[(false, [(.sl 23 [(.int .i64), (.int .i64), (.int .i64), (.int .i64)])]), (false, [(.sl 23 [(.int .i64), (.int .i64), (.int .i64), (.int .i64)])])], [(false, [(.sl 3 [(.int .i64)])])], [], none⟩
noncomputable def c17 : Code := Try.f17.body.getD .skip
theorem b17 : Try.f17.body = some c17 := body_some (by kernel_rfl)
theorem n17 : (Try.f17.name == "runtime.NumGoroutine") = false := by kernel_rfl
def sg17 : List (FuncId × Sig) := [(18, S18), (33, S33)]
def L17_0 : LoopSig := ⟨11701, [],
   ⟨[(.c (.x (.sl 23 [(.int .i64), (.int .i64), (.int .i64), (.int .i64)]) (.var 0))), (.c (.x (.sl 23 [(.int .i64), (.int .i64), (.int .i64), (.int .i64)]) (.var 1))), .any, .any, .any, (.c (.row 0 1)), (.c (.x (.int .i64) (.var 2))), .any, .any, .any, .any, .any, .any, .any, .any, .any, .any, .any, .any, .any, .any, .any, .any, .any, .any, .any, .any, .any, .any, .any, .any, .any, .any, .any, .any, .any, .any, .any, .any, .any, .any, .any, .any, .any, .any, .any],
    [some ⟨(.t true), (.row 3 [(.int .i64)] (.var 3) 1 false)⟩]⟩,
   4, [2, 3], [10, 11, 12, 13, 16, 17, 18, 19, 20, 7, 8, 21, 22, 23, 24, 27, 28, 29, 30, 31, 32, 33, 34, 35, 36, 37, 38, 39, 25, 26, 40, 41, 42, 43, 44, 5, 14, 15, 6], [(.exit 0)]⟩
def L17_1 : LoopSig := ⟨11700, [],
   ⟨[(.c (.x (.sl 23 [(.int .i64), (.int .i64), (.int .i64), (.int .i64)]) (.var 0))), (.c (.x (.sl 23 [(.int .i64), (.int .i64), (.int .i64), (.int .i64)]) (.var 1))), .any, .any, .any, .any, (.c (.x (.int .i64) (.var 2))), (.c (.x .bool (.var 3))), (.c (.x (.int .i64) (.var 4))), .any, .any, .any, .any, .any, .any, .any, .any, .any, .any, .any, .any, .any, .any, .any, .any, .any, .any, .any, .any, .any, .any, .any, .any, .any, .any, .any, .any, .any, .any, .any, .any, .any, .any, .any, .any, .any],
    [none]⟩,
   5, [3, 4], [21, 22, 23, 24, 27, 28, 29, 30, 31, 32, 33, 34, 35, 36, 37, 38, 39, 7, 25, 26, 8], [(.exit 2)]⟩
def lt17 : List (Nat × LoopSig) := [(3, L17_0), (7, L17_1)]
theorem k17 : (Code.loops c17).length = 2 := by kernel_rfl
noncomputable def lb17_0 : Code := (Code.loops c17).getD 0 .skip
noncomputable def lb17_1 : Code := (Code.loops c17).getD 1 .skip
def rt17_0 : VT :=
  (.ite (.bin .lt (.var 2) (.un .len (.var 0)))
   (.need (.t true) (.c (.bin .le (.n 0) (.var 2)))
   (.need (.t true) (.pre 18 (.cons (.sel 0 (.var 0) (.var 2)) (.cons (.sel 1 (.var 0) (.var 2)) (.cons (.sel 2 (.var 0) (.var 2)) (.cons (.sel 3 (.var 0) (.var 2)) .nil)))))
   (.lt (.app 18 (.cons (.sel 0 (.var 0) (.var 2)) (.cons (.sel 1 (.var 0) (.var 2)) (.cons (.sel 2 (.var 0) (.var 2)) (.cons (.sel 3 (.var 0) (.var 2)) .nil)))) 0) 1
   (.need (.t true) (.pre 11700 (.cons (.var 0) (.cons (.var 1) (.cons (.var 2) (.cons (.var 4) (.cons (.n 0) .nil))))))
   (.lt (.app 11700 (.cons (.var 0) (.cons (.var 1) (.cons (.var 2) (.cons (.var 4) (.cons (.n 0) .nil))))) 0) 3
   (.ite (.var 6)
    (.need (.t true) (.c (.bin .le (.un .len (.bin .cat (.var 3) (.lcons (.cons (.var 2) .nil) .lnil))) (.n 17592186044416)))
    (.ret (.cons (.n (-1)) (.cons (.bin (.add .i64) (.var 2) (.n 1)) (.cons (.bin .cat (.var 3) (.lcons (.cons (.var 2) .nil) .lnil)) .nil)))))
    (.ret (.cons (.n (-1)) (.cons (.bin (.add .i64) (.var 2) (.n 1)) (.cons (.var 3) .nil))))))))))
   (.ret (.cons (.n 0) (.cons (.var 2) (.cons (.var 3) .nil)))))
theorem le17_0 : (loopVT Try.prog (sgOf sg17) (ltOf lt17) L17_0 lb17_0).slim L17_0.nv [] = rt17_0 := by kernel_rfl
theorem lf17_0 : (firstRegion lb17_0).bind (ltOf lt17) = some L17_0 := by kernel_rfl
theorem lk17_0 : (Code.loops lb17_0).length = 1 := by kernel_rfl
theorem li17_0_0 : (Code.loops lb17_0).getD 0 .skip = lb17_1 := by kernel_rfl
def rt17_1 : VT :=
  (.ite (.bin .lt (.var 4) (.un .len (.var 1)))
   (.need (.var 3) (.c (.bin .le (.n 0) (.var 2)))
   (.need (.var 3) (.c (.bin .lt (.var 2) (.un .len (.var 0))))
   (.need (.var 3) (.c (.bin .le (.n 0) (.var 4)))
   (.need (.var 3) (.pre 33 (.cons (.sel 0 (.var 0) (.var 2)) (.cons (.sel 1 (.var 0) (.var 2)) (.cons (.sel 2 (.var 0) (.var 2)) (.cons (.sel 3 (.var 0) (.var 2)) (.cons (.sel 0 (.var 1) (.var 4)) (.cons (.sel 1 (.var 1) (.var 4)) (.cons (.sel 2 (.var 1) (.var 4)) (.cons (.sel 3 (.var 1) (.var 4)) .nil)))))))))
   (.lt (.app 33 (.cons (.sel 0 (.var 0) (.var 2)) (.cons (.sel 1 (.var 0) (.var 2)) (.cons (.sel 2 (.var 0) (.var 2)) (.cons (.sel 3 (.var 0) (.var 2)) (.cons (.sel 0 (.var 1) (.var 4)) (.cons (.sel 1 (.var 1) (.var 4)) (.cons (.sel 2 (.var 1) (.var 4)) (.cons (.sel 3 (.var 1) (.var 4)) .nil)))))))) 0) 1
   (.ret (.cons (.n (-1)) (.cons (.ite (.var 3) (.un .not (.var 5)) (.t false)) (.cons (.bin (.add .i64) (.var 4) (.n 1)) .nil)))))))))
   (.ret (.cons (.n 0) (.cons (.var 3) (.cons (.var 4) .nil)))))
theorem le17_1 : (loopVT Try.prog (sgOf sg17) (ltOf lt17) L17_1 lb17_1).slim L17_1.nv [] = rt17_1 := by kernel_rfl
theorem lf17_1 : (firstRegion lb17_1).bind (ltOf lt17) = some L17_1 := by kernel_rfl
theorem lk17_1 : (Code.loops lb17_1).length = 0 := by kernel_rfl
def vt17 : VT :=
  (.need (.t true) (.pre 11701 (.cons (.var 0) (.cons (.var 1) (.cons (.n 0) (.cons .lnil .nil)))))
  (.lt (.app 11701 (.cons (.var 0) (.cons (.var 1) (.cons (.n 0) (.cons .lnil .nil)))) 0) 3
  (.ret (.cons (.var 4) .nil))))
theorem e17 : (fnVT Try.prog (sgOf sg17) (ltOf lt17) S17 Try.f17 c17).slim (S17.ps.map fun p => p.2.length).sum [] = vt17 := by kernel_rfl

/-! ### 5 -/
def S5 : Sig := ⟨[(false, [(.sl 23 [(.int .i64), (.int .i64), (.int .i64), (.int .i64)])]), (false, [(.sl 23 [(.int .i64), (.int .i64), (.int .i64), (.int .i64)])])], [(false, [.bool])], [], none⟩
noncomputable def c5 : Code := Try.f5.body.getD .skip
theorem b5 : Try.f5.body = some c5 := body_some (by kernel_rfl)
theorem n5 : (Try.f5.name == "runtime.NumGoroutine") = false := by kernel_rfl
def sg5 : List (FuncId × Sig) := [(12, S12), (16, S16), (17, S17), (15, S15)]
def lt5 : List (Nat × LoopSig) := []
theorem k5 : (Code.loops c5).length = 0 := by kernel_rfl
def vt5 : VT :=
  (.ite (.ite (.bin .lt (.n 100) (.un .len (.var 0))) (.t true) (.bin .lt (.n 100) (.un .len (.var 1))))
   (.need (.t true) (.pre 12 .nil)
   (.lt (.app 12 .nil 0) 1
   (.ret (.cons (.var 2) .nil))))
   (.need (.t true) (.pre 16 (.cons (.var 0) (.cons (.var 1) .nil)))
   (.lt (.app 16 (.cons (.var 0) (.cons (.var 1) .nil)) 0) 1
   (.need (.t true) (.pre 17 (.cons (.var 0) (.cons (.var 1) .nil)))
   (.lt (.app 17 (.cons (.var 0) (.cons (.var 1) .nil)) 0) 1
   (.need (.t true) (.pre 15 (.cons (.var 2) (.cons (.var 3) .nil)))
   (.lt (.app 15 (.cons (.var 2) (.cons (.var 3) .nil)) 0) 1
   (.need (.var 4) (.pre 12 .nil)
   (.lt (.app 12 .nil 0) 1
   (.ret (.cons (.ite (.var 4) (.var 5) (.t false)) .nil)))))))))))
theorem e5 : (fnVT Try.prog (sgOf sg5) (ltOf lt5) S5 Try.f5 c5).slim (S5.ps.map fun p => p.2.length).sum [] = vt5 := by kernel_rfl

/-! ### 6 -/
def S6 : Sig := ⟨[(true, [(.int .i64), (.int .i64), (.int .i64), (.int .i64)]), (true, [(.int .i64), (.int .i64), (.int .i64)])], [(false, [.bool])], [], none⟩
noncomputable def c6 : Code := Try.f6.body.getD .skip
theorem b6 : Try.f6.body = some c6 := body_some (by kernel_rfl)
theorem n6 : (Try.f6.name == "runtime.NumGoroutine") = false := by kernel_rfl
def sg6 : List (FuncId × Sig) := [(10, S10), (18, S18), (12, S12)]
def L6_0 : LoopSig := ⟨10600, [],
   ⟨[.any, .any, (.c (.ptr 0 0)), (.c (.ptr 1 0)), (.c (.x .bool (.var 0))), (.c (.x (.sl 23 [(.int .i64), (.int .i64), (.int .i64), (.int .i64)]) (.var 1))), (.c (.x (.int .i64) (.var 2))), .any, .any, .any, .any, .any, .any, .any, .any, .any, .any, .any, .any, .any, .any, .any, .any, .any, .any, .any, .any, .any, .any, .any, .any, .any, .any, .any, .any, .any, .any, .any, .any, .any, .any, .any, .any, .any, .any, .any, .any, .any, .any, .any, .any, .any, .any, .any, .any, .any, .any, .any, .any, .any, .any, .any, .any, .any, .any, .any, .any, .any, .any, .any, .any, .any, .any, .any, .any, .any, .any, .any, .any, .any, .any, .any, .any, .any, .any, .any, .any, .any, .any, .any, .any, .any, .any, .any, .any, .any, .any, .any, .any, .any, .any, .any, .any, .any, .any, .any, .any, .any, .any, .any, .any, .any, .any, .any, .any, .any, .any, .any, .any],
    [some ⟨(.t true), (.box 23 [(.x (.int .i64) (.var 3)), (.x (.int .i64) (.var 4)), (.x (.int .i64) (.var 5)), (.x (.int .i64) (.var 6))] false)⟩, some ⟨(.t true), (.box 24 [(.x (.int .i64) (.var 7)), (.x (.int .i64) (.var 8)), (.x (.int .i64) (.var 9))] false)⟩]⟩,
   10, [0, 2], [45, 46, 47, 48, 51, 52, 53, 54, 7, 55, 56, 57, 58, 59, 60, 61, 62, 63, 64, 65, 66, 67, 68, 69, 70, 71, 72, 73, 74, 75, 76, 77, 4, 78, 79, 80, 81, 82, 83, 84, 85, 86, 87, 88, 89, 90, 91, 92, 93, 94, 95, 96, 97, 98, 99, 100, 101, 102, 103, 104, 105, 106, 107, 108, 109, 110, 111, 112, 113, 114, 115, 8, 116, 117, 49, 50, 6], [.ret, (.exit 0)]⟩
def lt6 : List (Nat × LoopSig) := [(5, L6_0)]
theorem k6 : (Code.loops c6).length = 1 := by kernel_rfl
noncomputable def lb6_0 : Code := (Code.loops c6).getD 0 .skip
def rt6_0 : VT :=
  (.ite (.bin .lt (.var 2) (.un .len (.var 1)))
   (.need (.t true) (.c (.bin .le (.n 0) (.var 2)))
   (.need (.t true) (.pre 18 (.cons (.sel 0 (.var 1) (.var 2)) (.cons (.sel 1 (.var 1) (.var 2)) (.cons (.sel 2 (.var 1) (.var 2)) (.cons (.sel 3 (.var 1) (.var 2)) .nil)))))
   (.lt (.app 18 (.cons (.sel 0 (.var 1) (.var 2)) (.cons (.sel 1 (.var 1) (.var 2)) (.cons (.sel 2 (.var 1) (.var 2)) (.cons (.sel 3 (.var 1) (.var 2)) .nil)))) 0) 1
   (.ite (.ite (.ite (.un .not (.var 10)) (.t true) (.un .not (.bin .eq (.bin (.sub .i64) (.sel 2 (.var 1) (.var 2)) (.sel 0 (.var 1) (.var 2))) (.var 7)))) (.t true) (.un .not (.bin .eq (.bin (.sub .i64) (.sel 3 (.var 1) (.var 2)) (.sel 1 (.var 1) (.var 2))) (.var 8))))
    (.ret (.cons (.n 0) (.cons (.t false) (.cons (.var 2) .nil))))
    (.ite (.un .not (.ite (.ite (.ite (.bin .le (.var 9) (.bin (.sub .i64) (.sel 0 (.var 1) (.var 2)) (.var 5))) (.t true) (.bin .le (.var 9) (.bin (.sub .i64) (.var 3) (.sel 2 (.var 1) (.var 2))))) (.t true) (.bin .le (.var 9) (.bin (.sub .i64) (.sel 1 (.var 1) (.var 2)) (.var 6)))) (.t true) (.bin .le (.var 9) (.bin (.sub .i64) (.var 4) (.sel 3 (.var 1) (.var 2))))))
     (.ret (.cons (.n 0) (.cons (.t false) (.cons (.var 2) .nil))))
     (.ret (.cons (.n (-1)) (.cons (.var 0) (.cons (.bin (.add .i64) (.var 2) (.n 1)) .nil)))))))))
   (.ret (.cons (.n 1) (.cons (.var 0) (.cons (.var 2) .nil)))))
theorem le6_0 : (loopVT Try.prog (sgOf sg6) (ltOf lt6) L6_0 lb6_0).slim L6_0.nv [] = rt6_0 := by kernel_rfl
theorem lf6_0 : (firstRegion lb6_0).bind (ltOf lt6) = some L6_0 := by kernel_rfl
theorem lk6_0 : (Code.loops lb6_0).length = 0 := by kernel_rfl
def vt6 : VT :=
  (.need (.t true) (.pre 10 (.cons (.var 0) (.cons (.var 1) (.cons (.var 2) (.cons (.var 3) (.cons (.var 4) (.cons (.var 5) (.cons (.var 6) .nil))))))))
  (.lt (.app 10 (.cons (.var 0) (.cons (.var 1) (.cons (.var 2) (.cons (.var 3) (.cons (.var 4) (.cons (.var 5) (.cons (.var 6) .nil))))))) 0) 1
  (.need (.ite (.un .not (.bin .lt (.n 8) (.un .len (.var 7)))) (.bin .lt (.n 0) (.un .len (.var 7))) (.t false)) (.pre 18 (.cons (.var 0) (.cons (.var 1) (.cons (.var 2) (.cons (.var 3) .nil)))))
  (.lt (.app 18 (.cons (.var 0) (.cons (.var 1) (.cons (.var 2) (.cons (.var 3) .nil)))) 0) 1
  (.ite (.ite (.bin .lt (.n 8) (.un .len (.var 7))) (.t true) (.ite (.bin .lt (.n 0) (.un .len (.var 7))) (.ite (.ite (.ite (.un .not (.var 8)) (.t true) (.bin .lt (.var 4) (.n 0))) (.t true) (.bin .lt (.var 5) (.n 0))) (.t true) (.bin .lt (.var 6) (.n 0))) (.t false)))
   (.ret (.cons (.t false) .nil))
   (.need (.t true) (.pre 10600 (.cons (.t false) (.cons (.var 7) (.cons (.n 0) (.cons (.var 0) (.cons (.var 1) (.cons (.var 2) (.cons (.var 3) (.cons (.var 4) (.cons (.var 5) (.cons (.var 6) .nil)))))))))))
   (.lt (.app 10600 (.cons (.t false) (.cons (.var 7) (.cons (.n 0) (.cons (.var 0) (.cons (.var 1) (.cons (.var 2) (.cons (.var 3) (.cons (.var 4) (.cons (.var 5) (.cons (.var 6) .nil)))))))))) 0) 3
   (.ite (.bin .eq (.var 9) (.n 0))
    (.ret (.cons (.var 10) .nil))
    (.need (.t true) (.pre 12 .nil)
    (.lt (.app 12 .nil 0) 1
    (.ret (.cons (.var 12) .nil))))))))))))
theorem e6 : (fnVT Try.prog (sgOf sg6) (ltOf lt6) S6 Try.f6 c6).slim (S6.ps.map fun p => p.2.length).sum [] = vt6 := by kernel_rfl

/-! ### 7 -/
def S7 : Sig := ⟨[(false, [(.sl 45 [(.int .i64), (.int .i64)])]), (true, [(.int .i64), (.int .i64), (.int .i64)])], [(false, [.bool])], [], none⟩
noncomputable def c7 : Code := Try.f7.body.getD .skip
theorem b7 : Try.f7.body = some c7 := body_some (by kernel_rfl)
theorem n7 : (Try.f7.name == "runtime.NumGoroutine") = false := by kernel_rfl
def sg7 : List (FuncId × Sig) := [(19, S19), (12, S12), (13, S13), (20, S20)]
def L7_0 : LoopSig := ⟨10701, [],
   ⟨[(.c (.x (.sl 45 [(.int .i64), (.int .i64)]) (.var 0))), .any, .any, (.c (.ptr 0 0)), (.c (.x .bool (.var 1))), (.c (.x (.sl 23 [(.int .i64), (.int .i64), (.int .i64), (.int .i64)]) (.var 2))), (.c (.x (.int .i64) (.var 3))), .any, .any, .any, .any, .any, .any, .any, .any, .any, .any, .any, .any, .any, .any, .any, .any, .any, .any, .any, .any, .any, .any, .any, .any, .any, .any, .any, .any, .any, .any, .any, .any, .any, .any, .any, .any, .any, .any, .any, .any, .any, .any, .any, .any, .any, .any, .any, .any, .any, .any, .any, .any, .any, .any, .any, .any, .any, .any, .any, .any, .any, .any, .any, .any, .any, .any, .any, .any, .any, .any, .any, .any, .any, .any, .any, .any, .any, .any, .any, .any, .any, .any, .any, .any, .any, .any, .any, .any, .any, .any, .any, .any, .any, .any, .any, .any, .any, .any, .any, .any, .any, .any, .any, .any, .any, .any, .any, .any, .any, .any, .any, .any, .any, .any, .any, .any, .any, .any, .any, .any, .any, .any, .any, .any, .any, .any, .any, .any, .any, .any, .any, .any, .any, .any],
    [some ⟨(.t true), (.box 24 [(.x (.int .i64) (.var 4)), (.x (.int .i64) (.var 5)), (.x (.int .i64) (.var 6))] false)⟩]⟩,
   7, [1, 3], [34, 35, 36, 37, 7, 8, 40, 41, 42, 43, 46, 47, 48, 49, 50, 51, 52, 9, 53, 54, 55, 56, 57, 58, 59, 60, 61, 62, 63, 64, 65, 66, 67, 68, 69, 70, 71, 72, 73, 74, 75, 76, 77, 78, 79, 80, 81, 82, 83, 84, 85, 86, 87, 88, 89, 90, 91, 92, 93, 94, 95, 96, 97, 98, 99, 100, 101, 102, 103, 104, 105, 44, 45, 106, 107, 108, 109, 110, 111, 112, 113, 114, 115, 116, 117, 118, 119, 120, 121, 122, 123, 124, 125, 126, 127, 128, 129, 130, 131, 132, 133, 134, 135, 136, 137, 138, 139, 4, 38, 39, 6], [.ret, (.exit 0)]⟩
def L7_1 : LoopSig := ⟨10700, [],
   ⟨[(.c (.x (.sl 45 [(.int .i64), (.int .i64)]) (.var 0))), .any, .any, (.c (.ptr 0 0)), .any, (.c (.x (.sl 23 [(.int .i64), (.int .i64), (.int .i64), (.int .i64)]) (.var 1))), (.c (.x (.int .i64) (.var 2))), (.c (.x .bool (.var 3))), (.c (.x (.int .i64) (.var 4))), .any, .any, .any, .any, .any, .any, .any, .any, .any, .any, .any, .any, .any, .any, .any, .any, .any, .any, .any, .any, .any, .any, .any, .any, .any, .any, .any, .any, .any, .any, .any, .any, .any, .any, .any, .any, .any, .any, .any, .any, .any, .any, .any, .any, .any, .any, .any, .any, .any, .any, .any, .any, .any, .any, .any, .any, .any, .any, .any, .any, .any, .any, .any, .any, .any, .any, .any, .any, .any, .any, .any, .any, .any, .any, .any, .any, .any, .any, .any, .any, .any, .any, .any, .any, .any, .any, .any, .any, .any, .any, .any, .any, .any, .any, .any, .any, .any, .any, .any, .any, .any, .any, .any, .any, .any, .any, .any, .any, .any, .any, .any, .any, .any, .any, .any, .any, .any, .any, .any, .any, .any, .any, .any, .any, .any, .any, .any, .any, .any, .any, .any, .any],
    [some ⟨(.t true), (.box 24 [(.x (.int .i64) (.var 5)), (.x (.int .i64) (.var 6)), (.x (.int .i64) (.var 7))] false)⟩]⟩,
   8, [3, 4], [40, 41, 42, 43, 46, 47, 48, 49, 50, 51, 52, 9, 53, 54, 55, 56, 57, 58, 59, 60, 61, 62, 63, 64, 65, 66, 67, 68, 69, 70, 71, 72, 73, 74, 75, 76, 77, 78, 79, 80, 81, 82, 83, 84, 85, 86, 87, 88, 89, 90, 91, 92, 93, 94, 95, 96, 97, 98, 99, 100, 101, 102, 103, 104, 105, 7, 44, 45, 8], [(.exit 2)]⟩
def lt7 : List (Nat × LoopSig) := [(7, L7_0), (11, L7_1)]
theorem k7 : (Code.loops c7).length = 2 := by kernel_rfl
noncomputable def lb7_0 : Code := (Code.loops c7).getD 0 .skip
noncomputable def lb7_1 : Code := (Code.loops c7).getD 1 .skip
def rt7_0 : VT :=
  (.ite (.bin .lt (.var 3) (.un .len (.var 2)))
   (.need (.t true) (.pre 10700 (.cons (.var 0) (.cons (.var 2) (.cons (.var 3) (.cons (.t false) (.cons (.n 1) (.cons (.var 4) (.cons (.var 5) (.cons (.var 6) .nil)))))))))
   (.lt (.app 10700 (.cons (.var 0) (.cons (.var 2) (.cons (.var 3) (.cons (.t false) (.cons (.n 1) (.cons (.var 4) (.cons (.var 5) (.cons (.var 6) .nil)))))))) 0) 3
   (.need (.var 8) (.c (.bin .le (.n 0) (.var 3)))
   (.need (.un .not (.ite (.un .not (.var 8)) (.t true) (.un .not (.bin .eq (.bin (.sub .i64) (.sel 2 (.var 2) (.var 3)) (.sel 0 (.var 2) (.var 3))) (.var 4))))) (.c (.bin .le (.n 0) (.var 3)))
   (.ite (.ite (.ite (.un .not (.var 8)) (.t true) (.un .not (.bin .eq (.bin (.sub .i64) (.sel 2 (.var 2) (.var 3)) (.sel 0 (.var 2) (.var 3))) (.var 4)))) (.t true) (.un .not (.bin .eq (.bin (.sub .i64) (.sel 3 (.var 2) (.var 3)) (.sel 1 (.var 2) (.var 3))) (.var 5))))
    (.ret (.cons (.n 0) (.cons (.t false) (.cons (.var 3) .nil))))
    (.ret (.cons (.n (-1)) (.cons (.var 1) (.cons (.bin (.add .i64) (.var 3) (.n 1)) .nil)))))))))
   (.ret (.cons (.n 1) (.cons (.var 1) (.cons (.var 3) .nil)))))
theorem le7_0 : (loopVT Try.prog (sgOf sg7) (ltOf lt7) L7_0 lb7_0).slim L7_0.nv [] = rt7_0 := by kernel_rfl
theorem lf7_0 : (firstRegion lb7_0).bind (ltOf lt7) = some L7_0 := by kernel_rfl
theorem lk7_0 : (Code.loops lb7_0).length = 1 := by kernel_rfl
theorem li7_0_0 : (Code.loops lb7_0).getD 0 .skip = lb7_1 := by kernel_rfl
def rt7_1 : VT :=
  (.ite (.bin .lt (.var 4) (.un .len (.var 0)))
   (.need (.t true) (.c (.bin .le (.n 0) (.bin (.sub .i64) (.var 4) (.n 1))))
   (.need (.t true) (.c (.bin .le (.bin (.sub .i64) (.var 4) (.n 1)) (.bin (.add .i64) (.var 4) (.n 1))))
   (.need (.t true) (.c (.bin .le (.bin (.add .i64) (.var 4) (.n 1)) (.un .len (.var 0))))
   (.need (.t true) (.pre 20 (.cons (.sub (.var 0) (.bin (.sub .i64) (.var 4) (.n 1)) (.bin (.add .i64) (.var 4) (.n 1))) .nil))
   (.lt (.app 20 (.cons (.sub (.var 0) (.bin (.sub .i64) (.var 4) (.n 1)) (.bin (.add .i64) (.var 4) (.n 1))) .nil) 0) 4
   (.need (.un .not (.var 3)) (.c (.bin .le (.n 0) (.var 2)))
   (.need (.un .not (.var 3)) (.c (.bin .lt (.var 2) (.un .len (.var 1))))
   (.need (.un .not (.ite (.var 3) (.t true) (.bin .eq (.bin (.sub .i64) (.sel 0 (.var 1) (.var 2)) (.var 10)) (.var 7)))) (.c (.bin .le (.n 0) (.var 2)))
   (.need (.un .not (.ite (.var 3) (.t true) (.bin .eq (.bin (.sub .i64) (.sel 0 (.var 1) (.var 2)) (.var 10)) (.var 7)))) (.c (.bin .lt (.var 2) (.un .len (.var 1))))
   (.need (.un .not (.ite (.ite (.var 3) (.t true) (.bin .eq (.bin (.sub .i64) (.sel 0 (.var 1) (.var 2)) (.var 10)) (.var 7))) (.t true) (.bin .eq (.bin (.sub .i64) (.var 8) (.sel 2 (.var 1) (.var 2))) (.var 7)))) (.c (.bin .le (.n 0) (.var 2)))
   (.need (.un .not (.ite (.ite (.var 3) (.t true) (.bin .eq (.bin (.sub .i64) (.sel 0 (.var 1) (.var 2)) (.var 10)) (.var 7))) (.t true) (.bin .eq (.bin (.sub .i64) (.var 8) (.sel 2 (.var 1) (.var 2))) (.var 7)))) (.c (.bin .lt (.var 2) (.un .len (.var 1))))
   (.need (.un .not (.ite (.ite (.ite (.var 3) (.t true) (.bin .eq (.bin (.sub .i64) (.sel 0 (.var 1) (.var 2)) (.var 10)) (.var 7))) (.t true) (.bin .eq (.bin (.sub .i64) (.var 8) (.sel 2 (.var 1) (.var 2))) (.var 7))) (.t true) (.bin .eq (.bin (.sub .i64) (.sel 1 (.var 1) (.var 2)) (.var 11)) (.var 7)))) (.c (.bin .le (.n 0) (.var 2)))
   (.need (.un .not (.ite (.ite (.ite (.var 3) (.t true) (.bin .eq (.bin (.sub .i64) (.sel 0 (.var 1) (.var 2)) (.var 10)) (.var 7))) (.t true) (.bin .eq (.bin (.sub .i64) (.var 8) (.sel 2 (.var 1) (.var 2))) (.var 7))) (.t true) (.bin .eq (.bin (.sub .i64) (.sel 1 (.var 1) (.var 2)) (.var 11)) (.var 7)))) (.c (.bin .lt (.var 2) (.un .len (.var 1))))
   (.ret (.cons (.n (-1)) (.cons (.ite (.ite (.ite (.ite (.var 3) (.t true) (.bin .eq (.bin (.sub .i64) (.sel 0 (.var 1) (.var 2)) (.var 10)) (.var 7))) (.t true) (.bin .eq (.bin (.sub .i64) (.var 8) (.sel 2 (.var 1) (.var 2))) (.var 7))) (.t true) (.bin .eq (.bin (.sub .i64) (.sel 1 (.var 1) (.var 2)) (.var 11)) (.var 7))) (.t true) (.bin .eq (.bin (.sub .i64) (.var 9) (.sel 3 (.var 1) (.var 2))) (.var 7))) (.cons (.bin (.add .i64) (.var 4) (.n 1)) .nil)))))))))))))))))
   (.ret (.cons (.n 0) (.cons (.var 3) (.cons (.var 4) .nil)))))
theorem le7_1 : (loopVT Try.prog (sgOf sg7) (ltOf lt7) L7_1 lb7_1).slim L7_1.nv [] = rt7_1 := by kernel_rfl
theorem lf7_1 : (firstRegion lb7_1).bind (ltOf lt7) = some L7_1 := by kernel_rfl
theorem lk7_1 : (Code.loops lb7_1).length = 0 := by kernel_rfl
def vt7 : VT :=
  (.need (.un .not (.bin .lt (.n 100) (.un .len (.var 0)))) (.pre 19 (.cons (.var 0) .nil))
  (.lt (.app 19 (.cons (.var 0) .nil) 0) 1
  (.ite (.ite (.bin .lt (.n 100) (.un .len (.var 0))) (.t true) (.un .not (.var 4)))
   (.need (.t true) (.pre 12 .nil)
   (.lt (.app 12 .nil 0) 1
   (.ret (.cons (.var 5) .nil))))
   (.need (.t true) (.pre 13 (.cons (.var 0) (.cons (.var 1) (.cons (.var 2) (.cons (.var 3) .nil)))))
   (.lt (.app 13 (.cons (.var 0) (.cons (.var 1) (.cons (.var 2) (.cons (.var 3) .nil)))) 0) 1
   (.ite (.bin .lt (.bin (.mul .i64) (.n 2) (.bin (.sub .i64) (.un .len (.var 0)) (.n 1))) (.un .len (.var 5)))
    (.ret (.cons (.t false) .nil))
    (.need (.t true) (.pre 10701 (.cons (.var 0) (.cons (.t false) (.cons (.var 5) (.cons (.n 0) (.cons (.var 1) (.cons (.var 2) (.cons (.var 3) .nil))))))))
    (.lt (.app 10701 (.cons (.var 0) (.cons (.t false) (.cons (.var 5) (.cons (.n 0) (.cons (.var 1) (.cons (.var 2) (.cons (.var 3) .nil))))))) 0) 3
    (.ite (.bin .eq (.var 6) (.n 0))
     (.ret (.cons (.var 7) .nil))
     (.need (.t true) (.pre 12 .nil)
     (.lt (.app 12 .nil 0) 1
     (.ret (.cons (.var 9) .nil)))))))))))))
theorem e7 : (fnVT Try.prog (sgOf sg7) (ltOf lt7) S7 Try.f7 c7).slim (S7.ps.map fun p => p.2.length).sum [] = vt7 := by kernel_rfl

/-! ### 8 -/
def S8 : Sig := ⟨[(false, [(.sl 23 [(.int .i64), (.int .i64), (.int .i64), (.int .i64)])]), (false, [(.sl 23 [(.int .i64), (.int .i64), (.int .i64), (.int .i64)])]), (false, [(.sl 23 [(.int .i64), (.int .i64), (.int .i64), (.int .i64)])])], [(false, [.bool])], [], none⟩
noncomputable def c8 : Code := Try.f8.body.getD .skip
theorem b8 : Try.f8.body = some c8 := body_some (by kernel_rfl)
theorem n8 : (Try.f8.name == "runtime.NumGoroutine") = false := by kernel_rfl
def sg8 : List (FuncId × Sig) := [(12, S12), (16, S16), (18, S18), (15, S15)]
def L8_0 : LoopSig := ⟨10801, [],
   ⟨[.any, .any, .any, .any, .any, .any, (.c (.x .bool (.var 0))), .any, .any, (.c (.x (.sl 3 [(.int .i64)]) (.var 1))), (.c (.x (.sl 3 [(.int .i64)]) (.var 2))), (.c (.x (.int .i64) (.var 3))), (.c (.x (.int .i64) (.var 4))), .any, .any, .any, .any, .any, .any, .any, .any, .any, .any, .any, .any, .any, .any, .any, .any, .any, .any, .any, .any, .any, .any, .any, .any, .any, .any, .any, .any, .any, .any, .any, .any, .any, .any, .any, .any, .any, .any, .any, .any, .any, .any, .any, .any, .any, .any, .any, .any, .any, .any, .any, .any, .any, .any, .any, .any, .any, .any, .any, .any, .any, .any, .any, .any, .any, .any, .any, .any, .any, .any, .any, .any, .any, .any, .any, .any, .any, .any, .any, .any, .any, .any, .any, .any, .any, .any],
    [none, none, none]⟩,
   5, [0, 3, 4], [43, 44, 45, 46, 49, 50, 51, 52, 53, 54, 55, 56, 57, 58, 59, 60, 61, 62, 63, 64, 65, 11, 66, 67, 68, 69, 6, 47, 48, 12], [.ret, (.exit 0)]⟩
def L8_1 : LoopSig := ⟨10800, [],
   ⟨[.any, .any, .any, .any, .any, .any, .any, .any, .any, (.c (.x (.sl 3 [(.int .i64)]) (.var 0))), (.c (.x (.sl 3 [(.int .i64)]) (.var 1))), (.c (.x (.int .i64) (.var 2))), (.c (.x (.int .i64) (.var 3))), .any, .any, .any, .any, .any, .any, .any, .any, .any, .any, .any, .any, .any, .any, .any, .any, .any, .any, .any, .any, .any, .any, .any, .any, .any, .any, .any, .any, .any, .any, .any, .any, .any, .any, .any, .any, .any, .any, .any, .any, .any, .any, .any, .any, .any, .any, .any, .any, .any, .any, .any, .any, .any, .any, .any, .any, .any, .any, .any, .any, .any, .any, .any, .any, .any, .any, .any, .any, .any, .any, .any, .any, .any, .any, .any, .any, .any, .any, .any, .any, .any, .any, .any, .any, .any, .any],
    [none, none, none]⟩,
   4, [2], [49, 50, 51, 52, 53, 54, 55, 56, 57, 58, 59, 60, 61, 62, 63, 64, 65, 11], [(.exit 2)]⟩
def L8_2 : LoopSig := ⟨10802, [],
   ⟨[(.c (.x (.sl 23 [(.int .i64), (.int .i64), (.int .i64), (.int .i64)]) (.var 0))), .any, .any, .any, .any, .any, .any, .any, .any, .any, .any, .any, .any, (.c (.row 3 1)), (.c (.x (.int .i64) (.var 1))), .any, .any, .any, .any, .any, .any, .any, .any, .any, .any, .any, .any, .any, .any, .any, .any, .any, .any, .any, .any, .any, .any, .any, .any, .any, .any, .any, .any, .any, .any, .any, .any, .any, .any, .any, .any, .any, .any, .any, .any, .any, .any, .any, .any, .any, .any, .any, .any, .any, .any, .any, .any, .any, .any, .any, .any, .any, .any, .any, .any, .any, .any, .any, .any, .any, .any, .any, .any, .any, .any, .any, .any, .any, .any, .any, .any, .any, .any, .any, .any, .any, .any, .any, .any],
    [none, none, none, some ⟨(.t true), (.row 3 [(.int .i64)] (.var 2) 1 false)⟩]⟩,
   3, [1, 2], [71, 72, 73, 74, 77, 78, 79, 80, 81, 82, 83, 84, 85, 13, 75, 76, 14], [(.exit 4)]⟩
def lt8 : List (Nat × LoopSig) := [(8, L8_0), (10, L8_1), (16, L8_2)]
theorem k8 : (Code.loops c8).length = 3 := by kernel_rfl
noncomputable def lb8_0 : Code := (Code.loops c8).getD 0 .skip
noncomputable def lb8_1 : Code := (Code.loops c8).getD 1 .skip
noncomputable def lb8_2 : Code := (Code.loops c8).getD 2 .skip
def rt8_0 : VT :=
  (.ite (.bin .lt (.var 4) (.un .len (.var 2)))
   (.need (.t true) (.pre 10800 (.cons (.var 1) (.cons (.var 2) (.cons (.var 3) (.cons (.var 4) .nil)))))
   (.lt (.app 10800 (.cons (.var 1) (.cons (.var 2) (.cons (.var 3) (.cons (.var 4) .nil)))) 0) 2
   (.ite (.bin .eq (.var 6) (.un .len (.var 1)))
    (.ret (.cons (.n 0) (.cons (.t false) (.cons (.var 6) (.cons (.var 4) .nil)))))
    (.ret (.cons (.n (-1)) (.cons (.var 0) (.cons (.var 6) (.cons (.bin (.add .i64) (.var 4) (.n 1)) .nil))))))))
   (.ret (.cons (.n 1) (.cons (.var 0) (.cons (.var 3) (.cons (.var 4) .nil))))))
theorem le8_0 : (loopVT Try.prog (sgOf sg8) (ltOf lt8) L8_0 lb8_0).slim L8_0.nv [] = rt8_0 := by kernel_rfl
theorem lf8_0 : (firstRegion lb8_0).bind (ltOf lt8) = some L8_0 := by kernel_rfl
theorem lk8_0 : (Code.loops lb8_0).length = 1 := by kernel_rfl
theorem li8_0_0 : (Code.loops lb8_0).getD 0 .skip = lb8_1 := by kernel_rfl
def rt8_1 : VT :=
  (.need (.bin .lt (.var 2) (.un .len (.var 0))) (.c (.bin .le (.n 0) (.var 2)))
  (.need (.bin .lt (.var 2) (.un .len (.var 0))) (.c (.bin .lt (.var 2) (.un .len (.var 0))))
  (.need (.bin .lt (.var 2) (.un .len (.var 0))) (.c (.bin .le (.n 0) (.var 3)))
  (.need (.bin .lt (.var 2) (.un .len (.var 0))) (.c (.bin .lt (.var 3) (.un .len (.var 1))))
  (.ite (.ite (.bin .lt (.var 2) (.un .len (.var 0))) (.un .not (.bin .eq (.sel 0 (.var 0) (.var 2)) (.sel 0 (.var 1) (.var 3)))) (.t false))
   (.ret (.cons (.n (-1)) (.cons (.bin (.add .i64) (.var 2) (.n 1)) .nil)))
   (.ret (.cons (.n 0) (.cons (.var 2) .nil))))))))
theorem le8_1 : (loopVT Try.prog (sgOf sg8) (ltOf lt8) L8_1 lb8_1).slim L8_1.nv [] = rt8_1 := by kernel_rfl
theorem lf8_1 : (firstRegion lb8_1).bind (ltOf lt8) = some L8_1 := by kernel_rfl
theorem lk8_1 : (Code.loops lb8_1).length = 0 := by kernel_rfl
def rt8_2 : VT :=
  (.ite (.bin .lt (.var 1) (.un .len (.var 0)))
   (.need (.t true) (.c (.bin .le (.n 0) (.var 1)))
   (.need (.t true) (.pre 18 (.cons (.sel 0 (.var 0) (.var 1)) (.cons (.sel 1 (.var 0) (.var 1)) (.cons (.sel 2 (.var 0) (.var 1)) (.cons (.sel 3 (.var 0) (.var 1)) .nil)))))
   (.lt (.app 18 (.cons (.sel 0 (.var 0) (.var 1)) (.cons (.sel 1 (.var 0) (.var 1)) (.cons (.sel 2 (.var 0) (.var 1)) (.cons (.sel 3 (.var 0) (.var 1)) .nil)))) 0) 1
   (.ite (.var 3)
    (.need (.t true) (.c (.bin .le (.un .len (.bin .cat (.var 2) (.lcons (.cons (.var 1) .nil) .lnil))) (.n 17592186044416)))
    (.ret (.cons (.n (-1)) (.cons (.bin (.add .i64) (.var 1) (.n 1)) (.cons (.bin .cat (.var 2) (.lcons (.cons (.var 1) .nil) .lnil)) .nil)))))
    (.ret (.cons (.n (-1)) (.cons (.bin (.add .i64) (.var 1) (.n 1)) (.cons (.var 2) .nil))))))))
   (.ret (.cons (.n 0) (.cons (.var 1) (.cons (.var 2) .nil)))))
theorem le8_2 : (loopVT Try.prog (sgOf sg8) (ltOf lt8) L8_2 lb8_2).slim L8_2.nv [] = rt8_2 := by kernel_rfl
theorem lf8_2 : (firstRegion lb8_2).bind (ltOf lt8) = some L8_2 := by kernel_rfl
theorem lk8_2 : (Code.loops lb8_2).length = 0 := by kernel_rfl
def vt8 : VT :=
  (.ite (.ite (.ite (.bin .lt (.n 100) (.un .len (.var 0))) (.t true) (.bin .lt (.n 100) (.un .len (.var 1)))) (.t true) (.bin .lt (.n 100) (.un .len (.var 2))))
   (.need (.t true) (.pre 12 .nil)
   (.lt (.app 12 .nil 0) 1
   (.ret (.cons (.var 3) .nil))))
   (.need (.t true) (.c (.bin .le (.un .len (.bin .cat .lnil (.var 1))) (.n 4398046511104)))
   (.need (.t true) (.c (.bin .le (.un .len (.bin .cat (.bin .cat .lnil (.var 1)) (.var 2))) (.n 4398046511104)))
   (.need (.t true) (.pre 16 (.cons (.var 0) (.cons .lnil .nil)))
   (.lt (.app 16 (.cons (.var 0) (.cons .lnil .nil)) 0) 1
   (.need (.t true) (.pre 16 (.cons (.var 0) (.cons (.var 1) .nil)))
   (.lt (.app 16 (.cons (.var 0) (.cons (.var 1) .nil)) 0) 1
   (.need (.t true) (.pre 16 (.cons (.var 0) (.cons (.bin .cat (.bin .cat .lnil (.var 1)) (.var 2)) .nil)))
   (.lt (.app 16 (.cons (.var 0) (.cons (.bin .cat (.bin .cat .lnil (.var 1)) (.var 2)) .nil)) 0) 1
   (.need (.t true) (.pre 10801 (.cons (.t false) (.cons (.var 4) (.cons (.var 5) (.cons (.n 0) (.cons (.n 0) .nil))))))
   (.lt (.app 10801 (.cons (.t false) (.cons (.var 4) (.cons (.var 5) (.cons (.n 0) (.cons (.n 0) .nil))))) 0) 4
   (.ite (.bin .eq (.var 6) (.n 0))
    (.ret (.cons (.var 7) .nil))
    (.need (.t true) (.pre 10802 (.cons (.var 0) (.cons (.n 0) (.cons .lnil .nil))))
    (.lt (.app 10802 (.cons (.var 0) (.cons (.n 0) (.cons .lnil .nil))) 0) 3
    (.need (.bin .le (.un .len (.var 4)) (.un .len (.var 3))) (.pre 15 (.cons (.var 3) (.cons (.var 12) .nil)))
    (.lt (.app 15 (.cons (.var 3) (.cons (.var 12) .nil)) 0) 1
    (.need (.ite (.bin .le (.un .len (.var 4)) (.un .len (.var 3))) (.var 13) (.t false)) (.pre 12 .nil)
    (.lt (.app 12 .nil 0) 1
    (.ret (.cons (.ite (.ite (.bin .le (.un .len (.var 4)) (.un .len (.var 3))) (.var 13) (.t false)) (.var 14) (.t false)) .nil))))))))))))))))))))
theorem e8 : (fnVT Try.prog (sgOf sg8) (ltOf lt8) S8 Try.f8 c8).slim (S8.ps.map fun p => p.2.length).sum [] = vt8 := by kernel_rfl

end Go.Proofs.Ytfmglokfgdjnjaa.rv
