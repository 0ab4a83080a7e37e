/-
  The functions of the program as they are run: printed by program.
-/
import Derived.Test.YtpnfcopgmeggoaaRvUse
import Derived.Test.YtpnfcopgmeggoaaRvPfn
import Derived.Test.YtpnfcopgmeggoaaChecked
namespace Go.Proofs.Ytpnfcopgmeggoaa.rv
open Go.RV
set_option maxRecDepth 100000
theorem mixed : Try.prog.follows .mixedOrders = true := by kernel_rfl
/-! ### function values -/
def S20025 : Sig := ⟨[(false, [.clo]), (true, [(.int .i64), (.int .i64)])], [(false, [.bool])], [], none⟩
def S20006 : Sig := ⟨[(false, [.clo]), (false, [(.int .u8)])], [(false, [.bool])], [], none⟩
/-! ### 42 -/
def S42 : Sig := ⟨[(false, [(.sl 24 [(.int .i64), (.int .i64)])])], [(false, [.bool])], [], none⟩
noncomputable def c42 : Code := Try.f42.body.getD .skip
theorem b42 : Try.f42.body = some c42 := body_some (by kernel_rfl)
theorem n42 : (Try.f42.name == "runtime.NumGoroutine") = false := by kernel_rfl
def sg42 : List (FuncId × Sig) := []
def L42_0 : LoopSig := ⟨14200, [],
   ⟨[(.c (.x (.sl 24 [(.int .i64), (.int .i64)]) (.var 0))), .any, (.c (.x .bool (.var 1))), (.c (.x (.int .i64) (.var 2))), .any, .any, .any, .any, .any, .any, .any, .any, .any, .any, .any, .any, .any, .any, .any, .any],
    []⟩,
   3, [1, 2], [4, 5, 6, 7, 10, 11, 12, 13, 14, 15, 16, 17, 18, 19, 2, 8, 9, 3], [.ret, (.exit 0)], []⟩
def lt42 : List (Nat × LoopSig) := [(2, L42_0)]
theorem k42 : (Code.loops c42).length = 1 := by kernel_rfl
noncomputable def lb42_0 : Code := (Code.loops c42).getD 0 .skip
def rt42_0 : VT :=
  (.ite (.bin .lt (.var 2) (.un .len (.var 0)))
   (.need (.t true) (.c (.bin .le (.n 0) (.bin (.sub .i64) (.var 2) (.n 1))))
   (.need (.t true) (.c (.bin .lt (.bin (.sub .i64) (.var 2) (.n 1)) (.un .len (.var 0))))
   (.need (.t true) (.c (.bin .le (.n 0) (.var 2)))
   (.ite (.ite (.bin .eq (.sel 0 (.var 0) (.bin (.sub .i64) (.var 2) (.n 1))) (.sel 0 (.var 0) (.var 2))) (.bin .eq (.sel 1 (.var 0) (.bin (.sub .i64) (.var 2) (.n 1))) (.sel 1 (.var 0) (.var 2))) (.t false))
    (.ret (.cons (.n 0) (.cons (.t false) (.cons (.var 2) .nil))))
    (.ret (.cons (.n (-1)) (.cons (.var 1) (.cons (.bin (.add .i64) (.var 2) (.n 1)) .nil))))))))
   (.ret (.cons (.n 1) (.cons (.var 1) (.cons (.var 2) .nil)))))
theorem le42_0 : (loopVT Try.prog (sgOf sg42) (ltOf lt42) L42_0 lb42_0).slim L42_0.nv [] = rt42_0 := by kernel_rfl
theorem lf42_0 : (firstRegion lb42_0).bind (ltOf lt42) = some L42_0 := by kernel_rfl
theorem lk42_0 : (Code.loops lb42_0).length = 0 := by kernel_rfl
def vt42 : VT :=
  (.need (.t true) (.pre 14200 (.cons (.var 0) (.cons (.t false) (.cons (.n 1) .nil))))
  (.lt (.app 14200 (.cons (.var 0) (.cons (.t false) (.cons (.n 1) .nil))) 0) 3
  (.ite (.bin .eq (.var 1) (.n 0))
   (.ret (.cons (.var 2) .nil))
   (.ret (.cons (.t true) .nil)))))
theorem e42 : (fnVT Try.prog (sgOf sg42) (ltOf lt42) S42 Try.f42 c42).slim (S42.ps.map fun p => p.2.length).sum [] = vt42 := by kernel_rfl

/-! ### 66 -/
def S66 : Sig := ⟨[(false, [(.sl 24 [(.int .i64), (.int .i64)])]), (false, [.clo])], [(false, [(.int .i64)])], [], none⟩
noncomputable def c66 : Code := Try.f66.body.getD .skip
theorem b66 : Try.f66.body = some c66 := body_some (by kernel_rfl)
theorem n66 : (Try.f66.name == "runtime.NumGoroutine") = false := by kernel_rfl
def sg66 : List (FuncId × Sig) := [(20025, S20025)]
def L66_0 : LoopSig := ⟨16600, [],
   ⟨[(.c (.x (.sl 24 [(.int .i64), (.int .i64)]) (.var 0))), (.c (.x .clo (.var 1))), .any, .any, (.c (.x (.int .i64) (.var 2))), .any, .any, (.c (.x (.int .i64) (.var 3))), (.c (.x (.int .i64) (.var 4))), .any, .any, .any, .any, .any, .any, .any, .any, .any, .any],
    []⟩,
   5, [2, 4], [9, 10, 5, 11, 12, 13, 14, 15, 16, 17, 4, 18, 8], [.ret, (.exit 0)], []⟩
def lt66 : List (Nat × LoopSig) := [(2, L66_0)]
theorem k66 : (Code.loops c66).length = 1 := by kernel_rfl
noncomputable def lb66_0 : Code := (Code.loops c66).getD 0 .skip
def rt66_0 : VT :=
  (.ite (.bin .lt (.var 4) (.var 3))
   (.need (.t true) (.c (.bin .le (.n 0) (.var 4)))
   (.need (.t true) (.c (.bin .lt (.var 4) (.un .len (.var 0))))
   (.need (.t true) (.pre 20025 (.cons (.var 1) (.cons (.sel 0 (.var 0) (.var 4)) (.cons (.sel 1 (.var 0) (.var 4)) .nil))))
   (.lt (.app 20025 (.cons (.var 1) (.cons (.sel 0 (.var 0) (.var 4)) (.cons (.sel 1 (.var 0) (.var 4)) .nil))) 0) 1
   (.ite (.var 5)
    (.ret (.cons (.n 0) (.cons (.var 4) (.cons (.var 4) .nil))))
    (.ret (.cons (.n (-1)) (.cons (.var 2) (.cons (.bin (.add .i64) (.var 4) (.n 1)) .nil)))))))))
   (.ret (.cons (.n 1) (.cons (.var 2) (.cons (.var 4) .nil)))))
theorem le66_0 : (loopVT Try.prog (sgOf sg66) (ltOf lt66) L66_0 lb66_0).slim L66_0.nv [] = rt66_0 := by kernel_rfl
theorem lf66_0 : (firstRegion lb66_0).bind (ltOf lt66) = some L66_0 := by kernel_rfl
theorem lk66_0 : (Code.loops lb66_0).length = 0 := by kernel_rfl
def vt66 : VT :=
  (.need (.t true) (.pre 16600 (.cons (.var 0) (.cons (.var 1) (.cons (.n 0) (.cons (.un .len (.var 0)) (.cons (.n 0) .nil))))))
  (.lt (.app 16600 (.cons (.var 0) (.cons (.var 1) (.cons (.n 0) (.cons (.un .len (.var 0)) (.cons (.n 0) .nil))))) 0) 3
  (.ite (.bin .eq (.var 2) (.n 0))
   (.ret (.cons (.var 3) .nil))
   (.ret (.cons (.n (-1)) .nil)))))
theorem e66 : (fnVT Try.prog (sgOf sg66) (ltOf lt66) S66 Try.f66 c66).slim (S66.ps.map fun p => p.2.length).sum [] = vt66 := by kernel_rfl

/-! ### 57 -/
def S57 : Sig := ⟨[(false, [(.sl 24 [(.int .i64), (.int .i64)])]), (false, [.clo])], [(false, [.bool])], [], none⟩
noncomputable def c57 : Code := Try.f57.body.getD .skip
theorem b57 : Try.f57.body = some c57 := body_some (by kernel_rfl)
theorem n57 : (Try.f57.name == "runtime.NumGoroutine") = false := by kernel_rfl
def sg57 : List (FuncId × Sig) := [(66, S66)]
def lt57 : List (Nat × LoopSig) := []
theorem k57 : (Code.loops c57).length = 0 := by kernel_rfl
def vt57 : VT :=
  (.need (.t true) (.pre 66 (.cons (.var 0) (.cons (.var 1) .nil)))
  (.lt (.app 66 (.cons (.var 0) (.cons (.var 1) .nil)) 0) 1
  (.ret (.cons (.bin .le (.n 0) (.var 2)) .nil))))
theorem e57 : (fnVT Try.prog (sgOf sg57) (ltOf lt57) S57 Try.f57 c57).slim (S57.ps.map fun p => p.2.length).sum [] = vt57 := by kernel_rfl

/-! ### 23 -/
def S23 : Sig := ⟨[(true, [(.int .i64), (.int .i64)])], [(false, [.bool])], [], none⟩
noncomputable def c23 : Code := Try.f23.body.getD .skip
theorem b23 : Try.f23.body = some c23 := body_some (by kernel_rfl)
theorem n23 : (Try.f23.name == "runtime.NumGoroutine") = false := by kernel_rfl
def sg23 : List (FuncId × Sig) := []
def lt23 : List (Nat × LoopSig) := []
theorem k23 : (Code.loops c23).length = 0 := by kernel_rfl
def vt23 : VT :=
  (.ret (.cons (.ite (.ite (.ite (.bin .le (.n (-268435456)) (.var 0)) (.bin .le (.var 0) (.n 268435456)) (.t false)) (.bin .le (.n (-268435456)) (.var 1)) (.t false)) (.bin .le (.var 1) (.n 268435456)) (.t false)) .nil))
theorem e23 : (fnVT Try.prog (sgOf sg23) (ltOf lt23) S23 Try.f23 c23).slim (S23.ps.map fun p => p.2.length).sum [] = vt23 := by kernel_rfl
def T23 : FuncId → List D → List D := tabOf []
def fn23 (ρ : List D) : List D := vt23.val T23 ρ
theorem m23 : Meets Try.prog 23 S23 (fun _ => True) fn23 := meets_easy (sgl := sg23) (Φ := T23) mixed ((fun _ h => nomatch h)) Try.func23 b23 n23 k23 e23 (by kernel_rfl)

/-! ### 58 -/
def S58 : Sig := ⟨[(true, [(.int .i64), (.int .i64)])], [(false, [.bool])], [], none⟩
noncomputable def c58 : Code := Try.f58.body.getD .skip
theorem b58 : Try.f58.body = some c58 := body_some (by kernel_rfl)
theorem n58 : (Try.f58.name == "runtime.NumGoroutine") = false := by kernel_rfl
def sg58 : List (FuncId × Sig) := [(23, S23)]
def lt58 : List (Nat × LoopSig) := []
theorem k58 : (Code.loops c58).length = 0 := by kernel_rfl
def vt58 : VT :=
  (.need (.t true) (.pre 23 (.cons (.var 0) (.cons (.var 1) .nil)))
  (.lt (.app 23 (.cons (.var 0) (.cons (.var 1) .nil)) 0) 1
  (.ret (.cons (.un .not (.var 2)) .nil))))
theorem e58 : (fnVT Try.prog (sgOf sg58) (ltOf lt58) S58 Try.f58 c58).slim (S58.ps.map fun p => p.2.length).sum [] = vt58 := by kernel_rfl
def T58 : FuncId → List D → List D := tabOf [(23, fn23)]
def fn58 (ρ : List D) : List D := vt58.val T58 ρ
theorem m58 : Meets Try.prog 58 S58 (fun _ => True) fn58 := meets_easy (sgl := sg58) (Φ := T58) mixed (List.forall_mem_cons.2 ⟨m23, (fun _ h => nomatch h)⟩) Try.func58 b58 n58 k58 e58 (by kernel_rfl)

/-! ### 43 -/
def S43 : Sig := ⟨[(false, [(.sl 24 [(.int .i64), (.int .i64)])])], [(false, [.bool])], [], none⟩
noncomputable def c43 : Code := Try.f43.body.getD .skip
theorem b43 : Try.f43.body = some c43 := body_some (by kernel_rfl)
theorem n43 : (Try.f43.name == "runtime.NumGoroutine") = false := by kernel_rfl
def sg43 : List (FuncId × Sig) := [(57, S57)]
def lt43 : List (Nat × LoopSig) := []
theorem k43 : (Code.loops c43).length = 0 := by kernel_rfl
def vt43 : VT :=
  (.need (.ite (.bin .le (.n 1) (.un .len (.var 0))) (.bin .le (.un .len (.var 0)) (.n 512)) (.t false)) (.pre 57 (.cons (.var 0) (.cons (.clo 58 [] .nil) .nil)))
  (.lt (.app 57 (.cons (.var 0) (.cons (.clo 58 [] .nil) .nil)) 0) 1
  (.ret (.cons (.ite (.ite (.bin .le (.n 1) (.un .len (.var 0))) (.bin .le (.un .len (.var 0)) (.n 512)) (.t false)) (.un .not (.var 1)) (.t false)) .nil))))
theorem e43 : (fnVT Try.prog (sgOf sg43) (ltOf lt43) S43 Try.f43 c43).slim (S43.ps.map fun p => p.2.length).sum [] = vt43 := by kernel_rfl

/-! ### 22 -/
def S22 : Sig := ⟨[(false, [(.sl 24 [(.int .i64), (.int .i64)])])], [(false, [.bool])], [], none⟩
noncomputable def c22 : Code := Try.f22.body.getD .skip
theorem b22 : Try.f22.body = some c22 := body_some (by kernel_rfl)
theorem n22 : (Try.f22.name == "runtime.NumGoroutine") = false := by kernel_rfl
def sg22 : List (FuncId × Sig) := [(42, S42), (43, S43)]
def lt22 : List (Nat × LoopSig) := []
theorem k22 : (Code.loops c22).length = 0 := by kernel_rfl
def vt22 : VT :=
  (.need (.t true) (.pre 42 (.cons (.var 0) .nil))
  (.lt (.app 42 (.cons (.var 0) .nil) 0) 1
  (.need (.var 1) (.pre 43 (.cons (.var 0) .nil))
  (.lt (.app 43 (.cons (.var 0) .nil) 0) 1
  (.ret (.cons (.ite (.var 1) (.var 2) (.t false)) .nil))))))
theorem e22 : (fnVT Try.prog (sgOf sg22) (ltOf lt22) S22 Try.f22 c22).slim (S22.ps.map fun p => p.2.length).sum [] = vt22 := by kernel_rfl

/-! ### 24 -/
def S24 : Sig := ⟨[(false, [(.int .i64)])], [(false, [.bool])], [], none⟩
noncomputable def c24 : Code := Try.f24.body.getD .skip
theorem b24 : Try.f24.body = some c24 := body_some (by kernel_rfl)
theorem n24 : (Try.f24.name == "runtime.NumGoroutine") = false := by kernel_rfl
def sg24 : List (FuncId × Sig) := []
def lt24 : List (Nat × LoopSig) := []
theorem k24 : (Code.loops c24).length = 0 := by kernel_rfl
def vt24 : VT :=
  (.ret (.cons (.ite (.bin .le (.n 0) (.var 0)) (.bin .le (.var 0) (.n 1048576)) (.t false)) .nil))
theorem e24 : (fnVT Try.prog (sgOf sg24) (ltOf lt24) S24 Try.f24 c24).slim (S24.ps.map fun p => p.2.length).sum [] = vt24 := by kernel_rfl
def T24 : FuncId → List D → List D := tabOf []
def fn24 (ρ : List D) : List D := vt24.val T24 ρ
theorem m24 : Meets Try.prog 24 S24 (fun _ => True) fn24 := meets_easy (sgl := sg24) (Φ := T24) mixed ((fun _ h => nomatch h)) Try.func24 b24 n24 k24 e24 (by kernel_rfl)

/-! ### 25 -/
def S25 : Sig := ⟨[(true, [(.int .i64), (.int .i64)]), (true, [(.int .i64), (.int .i64)]), (false, [(.int .i64)])], [(false, [.bool])], [], none⟩
noncomputable def c25 : Code := Try.f25.body.getD .skip
theorem b25 : Try.f25.body = some c25 := body_some (by kernel_rfl)
theorem n25 : (Try.f25.name == "runtime.NumGoroutine") = false := by kernel_rfl
def sg25 : List (FuncId × Sig) := []
def lt25 : List (Nat × LoopSig) := []
theorem k25 : (Code.loops c25).length = 0 := by kernel_rfl
def vt25 : VT :=
  (.ret (.cons (.bin .le (.bin (.add .i64) (.bin (.mul .i64) (.bin (.sub .i64) (.var 0) (.var 2)) (.bin (.sub .i64) (.var 0) (.var 2))) (.bin (.mul .i64) (.bin (.sub .i64) (.var 1) (.var 3)) (.bin (.sub .i64) (.var 1) (.var 3)))) (.bin (.mul .i64) (.var 4) (.var 4))) .nil))
theorem e25 : (fnVT Try.prog (sgOf sg25) (ltOf lt25) S25 Try.f25 c25).slim (S25.ps.map fun p => p.2.length).sum [] = vt25 := by kernel_rfl
def T25 : FuncId → List D → List D := tabOf []
def fn25 (ρ : List D) : List D := vt25.val T25 ρ
theorem m25 : Meets Try.prog 25 S25 (fun _ => True) fn25 := meets_easy (sgl := sg25) (Φ := T25) mixed ((fun _ h => nomatch h)) Try.func25 b25 n25 k25 e25 (by kernel_rfl)

/-! ### 44 -/
def S44 : Sig := ⟨[(false, [(.int .i64)])], [(false, [(.int .i64)])], [], none⟩
noncomputable def c44 : Code := Try.f44.body.getD .skip
theorem b44 : Try.f44.body = some c44 := body_some (by kernel_rfl)
theorem n44 : (Try.f44.name == "runtime.NumGoroutine") = false := by kernel_rfl
def sg44 : List (FuncId × Sig) := []
def lt44 : List (Nat × LoopSig) := []
theorem k44 : (Code.loops c44).length = 0 := by kernel_rfl
def vt44 : VT :=
  (.ret (.cons (.bin .max (.var 0) (.un (.neg .i64) (.var 0))) .nil))
theorem e44 : (fnVT Try.prog (sgOf sg44) (ltOf lt44) S44 Try.f44 c44).slim (S44.ps.map fun p => p.2.length).sum [] = vt44 := by kernel_rfl
def T44 : FuncId → List D → List D := tabOf []
def fn44 (ρ : List D) : List D := vt44.val T44 ρ
theorem m44 : Meets Try.prog 44 S44 (fun _ => True) fn44 := meets_easy (sgl := sg44) (Φ := T44) mixed ((fun _ h => nomatch h)) Try.func44 b44 n44 k44 e44 (by kernel_rfl)

/-! ### 59 -/
def S59 : Sig := ⟨[(false, [(.int .u64)]), (false, [(.int .u64)])], [(false, [(.int .u64)]), (false, [(.int .u64)])], [], none⟩
noncomputable def c59 : Code := Try.f59.body.getD .skip
theorem b59 : Try.f59.body = some c59 := body_some (by kernel_rfl)
theorem n59 : (Try.f59.name == "runtime.NumGoroutine") = false := by kernel_rfl
def sg59 : List (FuncId × Sig) := []
def lt59 : List (Nat × LoopSig) := []
theorem k59 : (Code.loops c59).length = 0 := by kernel_rfl
def vt59 : VT :=
  (.ret (.cons (.bin (.add .u64) (.bin (.add .u64) (.bin (.mul .u64) (.bin (.shr .u64) (.var 0) (.n 32)) (.bin (.shr .u64) (.var 1) (.n 32))) (.bin (.shr .u64) (.bin (.add .u64) (.bin (.mul .u64) (.bin (.shr .u64) (.var 0) (.n 32)) (.bin (.and .u64) (.var 1) (.n 4294967295))) (.bin (.shr .u64) (.bin (.mul .u64) (.bin (.and .u64) (.var 0) (.n 4294967295)) (.bin (.and .u64) (.var 1) (.n 4294967295))) (.n 32))) (.n 32))) (.bin (.shr .u64) (.bin (.add .u64) (.bin (.and .u64) (.bin (.add .u64) (.bin (.mul .u64) (.bin (.shr .u64) (.var 0) (.n 32)) (.bin (.and .u64) (.var 1) (.n 4294967295))) (.bin (.shr .u64) (.bin (.mul .u64) (.bin (.and .u64) (.var 0) (.n 4294967295)) (.bin (.and .u64) (.var 1) (.n 4294967295))) (.n 32))) (.n 4294967295)) (.bin (.mul .u64) (.bin (.and .u64) (.var 0) (.n 4294967295)) (.bin (.shr .u64) (.var 1) (.n 32)))) (.n 32))) (.cons (.bin (.mul .u64) (.var 0) (.var 1)) .nil)))
theorem e59 : (fnVT Try.prog (sgOf sg59) (ltOf lt59) S59 Try.f59 c59).slim (S59.ps.map fun p => p.2.length).sum [] = vt59 := by kernel_rfl
def T59 : FuncId → List D → List D := tabOf []
def fn59 (ρ : List D) : List D := vt59.val T59 ρ
theorem m59 : Meets Try.prog 59 S59 (fun _ => True) fn59 := meets_easy (sgl := sg59) (Φ := T59) mixed ((fun _ h => nomatch h)) Try.func59 b59 n59 k59 e59 (by kernel_rfl)

/-! ### 45 -/
def S45 : Sig := ⟨[(false, [(.int .i64)]), (false, [(.int .i64)])], [(true, [(.int .u64), (.int .u64)])], [], none⟩
noncomputable def c45 : Code := Try.f45.body.getD .skip
theorem b45 : Try.f45.body = some c45 := body_some (by kernel_rfl)
theorem n45 : (Try.f45.name == "runtime.NumGoroutine") = false := by kernel_rfl
def sg45 : List (FuncId × Sig) := [(59, S59)]
def lt45 : List (Nat × LoopSig) := []
theorem k45 : (Code.loops c45).length = 0 := by kernel_rfl
def vt45 : VT :=
  (.need (.t true) (.pre 59 (.cons (.un (.cnv .u64) (.var 0)) (.cons (.un (.cnv .u64) (.var 1)) .nil)))
  (.lt (.app 59 (.cons (.un (.cnv .u64) (.var 0)) (.cons (.un (.cnv .u64) (.var 1)) .nil)) 0) 2
  (.ret (.cons (.var 2) (.cons (.var 3) .nil)))))
theorem e45 : (fnVT Try.prog (sgOf sg45) (ltOf lt45) S45 Try.f45 c45).slim (S45.ps.map fun p => p.2.length).sum [] = vt45 := by kernel_rfl
def T45 : FuncId → List D → List D := tabOf [(59, fn59)]
def fn45 (ρ : List D) : List D := vt45.val T45 ρ
theorem m45 : Meets Try.prog 45 S45 (fun _ => True) fn45 := meets_easy (sgl := sg45) (Φ := T45) mixed (List.forall_mem_cons.2 ⟨m59, (fun _ h => nomatch h)⟩) Try.func45 b45 n45 k45 e45 (by kernel_rfl)

/-! ### 46 -/
def S46 : Sig := ⟨[(true, [(.int .u64), (.int .u64)]), (true, [(.int .u64), (.int .u64)])], [(false, [.bool])], [], none⟩
noncomputable def c46 : Code := Try.f46.body.getD .skip
theorem b46 : Try.f46.body = some c46 := body_some (by kernel_rfl)
theorem n46 : (Try.f46.name == "runtime.NumGoroutine") = false := by kernel_rfl
def sg46 : List (FuncId × Sig) := []
def lt46 : List (Nat × LoopSig) := []
theorem k46 : (Code.loops c46).length = 0 := by kernel_rfl
def vt46 : VT :=
  (.ret (.cons (.ite (.bin .lt (.var 0) (.var 2)) (.t true) (.ite (.bin .eq (.var 0) (.var 2)) (.bin .le (.var 1) (.var 3)) (.t false))) .nil))
theorem e46 : (fnVT Try.prog (sgOf sg46) (ltOf lt46) S46 Try.f46 c46).slim (S46.ps.map fun p => p.2.length).sum [] = vt46 := by kernel_rfl
def T46 : FuncId → List D → List D := tabOf []
def fn46 (ρ : List D) : List D := vt46.val T46 ρ
theorem m46 : Meets Try.prog 46 S46 (fun _ => True) fn46 := meets_easy (sgl := sg46) (Φ := T46) mixed ((fun _ h => nomatch h)) Try.func46 b46 n46 k46 e46 (by kernel_rfl)

/-! ### 26 -/
def S26 : Sig := ⟨[(true, [(.int .i64), (.int .i64)]), (true, [(.int .i64), (.int .i64)]), (true, [(.int .i64), (.int .i64)]), (false, [(.int .i64)])], [(false, [.bool])], [], none⟩
noncomputable def c26 : Code := Try.f26.body.getD .skip
theorem b26 : Try.f26.body = some c26 := body_some (by kernel_rfl)
theorem n26 : (Try.f26.name == "runtime.NumGoroutine") = false := by kernel_rfl
def sg26 : List (FuncId × Sig) := [(25, S25), (44, S44), (45, S45), (46, S46)]
def lt26 : List (Nat × LoopSig) := []
theorem k26 : (Code.loops c26).length = 0 := by kernel_rfl
def vt26 : VT :=
  (.need (.t true) (.pre 25 (.cons (.var 0) (.cons (.var 1) (.cons (.var 4) (.cons (.var 5) (.cons (.var 6) .nil))))))
  (.lt (.app 25 (.cons (.var 0) (.cons (.var 1) (.cons (.var 4) (.cons (.var 5) (.cons (.var 6) .nil))))) 0) 1
  (.need (.un .not (.var 7)) (.pre 25 (.cons (.var 2) (.cons (.var 3) (.cons (.var 4) (.cons (.var 5) (.cons (.var 6) .nil))))))
  (.lt (.app 25 (.cons (.var 2) (.cons (.var 3) (.cons (.var 4) (.cons (.var 5) (.cons (.var 6) .nil))))) 0) 1
  (.ite (.ite (.var 7) (.t true) (.var 8))
   (.ret (.cons (.t true) .nil))
   (.ite (.ite (.bin .lt (.bin (.add .i64) (.bin (.mul .i64) (.bin (.sub .i64) (.var 4) (.var 0)) (.bin (.sub .i64) (.var 2) (.var 0))) (.bin (.mul .i64) (.bin (.sub .i64) (.var 5) (.var 1)) (.bin (.sub .i64) (.var 3) (.var 1)))) (.n 0)) (.t true) (.bin .lt (.bin (.add .i64) (.bin (.mul .i64) (.bin (.sub .i64) (.var 2) (.var 0)) (.bin (.sub .i64) (.var 2) (.var 0))) (.bin (.mul .i64) (.bin (.sub .i64) (.var 3) (.var 1)) (.bin (.sub .i64) (.var 3) (.var 1)))) (.bin (.add .i64) (.bin (.mul .i64) (.bin (.sub .i64) (.var 4) (.var 0)) (.bin (.sub .i64) (.var 2) (.var 0))) (.bin (.mul .i64) (.bin (.sub .i64) (.var 5) (.var 1)) (.bin (.sub .i64) (.var 3) (.var 1))))))
    (.ret (.cons (.t false) .nil))
    (.need (.t true) (.pre 44 (.cons (.bin (.sub .i64) (.bin (.mul .i64) (.bin (.sub .i64) (.var 4) (.var 0)) (.bin (.sub .i64) (.var 3) (.var 1))) (.bin (.mul .i64) (.bin (.sub .i64) (.var 5) (.var 1)) (.bin (.sub .i64) (.var 2) (.var 0)))) .nil))
    (.lt (.app 44 (.cons (.bin (.sub .i64) (.bin (.mul .i64) (.bin (.sub .i64) (.var 4) (.var 0)) (.bin (.sub .i64) (.var 3) (.var 1))) (.bin (.mul .i64) (.bin (.sub .i64) (.var 5) (.var 1)) (.bin (.sub .i64) (.var 2) (.var 0)))) .nil) 0) 1
    (.need (.t true) (.pre 45 (.cons (.var 9) (.cons (.var 9) .nil)))
    (.lt (.app 45 (.cons (.var 9) (.cons (.var 9) .nil)) 0) 2
    (.need (.t true) (.pre 45 (.cons (.bin (.mul .i64) (.var 6) (.var 6)) (.cons (.bin (.add .i64) (.bin (.mul .i64) (.bin (.sub .i64) (.var 2) (.var 0)) (.bin (.sub .i64) (.var 2) (.var 0))) (.bin (.mul .i64) (.bin (.sub .i64) (.var 3) (.var 1)) (.bin (.sub .i64) (.var 3) (.var 1)))) .nil)))
    (.lt (.app 45 (.cons (.bin (.mul .i64) (.var 6) (.var 6)) (.cons (.bin (.add .i64) (.bin (.mul .i64) (.bin (.sub .i64) (.var 2) (.var 0)) (.bin (.sub .i64) (.var 2) (.var 0))) (.bin (.mul .i64) (.bin (.sub .i64) (.var 3) (.var 1)) (.bin (.sub .i64) (.var 3) (.var 1)))) .nil)) 0) 2
    (.need (.t true) (.pre 46 (.cons (.var 10) (.cons (.var 11) (.cons (.var 12) (.cons (.var 13) .nil)))))
    (.lt (.app 46 (.cons (.var 10) (.cons (.var 11) (.cons (.var 12) (.cons (.var 13) .nil)))) 0) 1
    (.ret (.cons (.ite (.var 14) (.bin .lt (.n 0) (.bin (.add .i64) (.bin (.mul .i64) (.bin (.sub .i64) (.var 2) (.var 0)) (.bin (.sub .i64) (.var 2) (.var 0))) (.bin (.mul .i64) (.bin (.sub .i64) (.var 3) (.var 1)) (.bin (.sub .i64) (.var 3) (.var 1))))) (.t false)) .nil))))))))))))))))
theorem e26 : (fnVT Try.prog (sgOf sg26) (ltOf lt26) S26 Try.f26 c26).slim (S26.ps.map fun p => p.2.length).sum [] = vt26 := by kernel_rfl
def T26 : FuncId → List D → List D := tabOf [(25, fn25), (44, fn44), (45, fn45), (46, fn46)]
def fn26 (ρ : List D) : List D := vt26.val T26 ρ
theorem m26 : Meets Try.prog 26 S26 (fun _ => True) fn26 := meets_easy (sgl := sg26) (Φ := T26) mixed (List.forall_mem_cons.2 ⟨m25, List.forall_mem_cons.2 ⟨m44, List.forall_mem_cons.2 ⟨m45, List.forall_mem_cons.2 ⟨m46, (fun _ h => nomatch h)⟩⟩⟩⟩) Try.func26 b26 n26 k26 e26 (by kernel_rfl)

/-! ### 9 -/
def S9 : Sig := ⟨[(false, [(.sl 24 [(.int .i64), (.int .i64)])]), (true, [(.int .i64), (.int .i64)]), (false, [(.int .i64)])], [(false, [.bool])], [], none⟩
noncomputable def c9 : Code := Try.f9.body.getD .skip
theorem b9 : Try.f9.body = some c9 := body_some (by kernel_rfl)
theorem n9 : (Try.f9.name == "runtime.NumGoroutine") = false := by kernel_rfl
def sg9 : List (FuncId × Sig) := [(22, S22), (23, S23), (24, S24), (25, S25), (26, S26)]
def L9_0 : LoopSig := ⟨10900, [],
   ⟨[(.c (.x (.sl 24 [(.int .i64), (.int .i64)]) (.var 0))), .any, (.c (.x (.int .i64) (.var 1))), .any, (.c (.ptr 0 0)), .any, (.c (.x .bool (.var 2))), (.c (.x (.int .i64) (.var 3))), .any, .any, .any, .any, .any, .any, .any, .any, .any, .any, .any, .any, .any, .any, .any, .any, .any, .any, .any, .any, .any, .any, .any, .any, .any, .any, .any, .any, .any, .any, .any, .any, .any, .any, .any, .any, .any],
    [some ⟨(.t true), (.box 24 [(.x (.int .i64) (.var 4)), (.x (.int .i64) (.var 5))] false)⟩]⟩,
   6, [2, 3], [27, 28, 29, 30, 33, 34, 35, 36, 37, 38, 39, 40, 41, 42, 43, 44, 6, 31, 32, 7], [.ret, (.exit 0)], []⟩
def lt9 : List (Nat × LoopSig) := [(6, L9_0)]
theorem k9 : (Code.loops c9).length = 1 := by kernel_rfl
noncomputable def lb9_0 : Code := (Code.loops c9).getD 0 .skip
def rt9_0 : VT :=
  (.ite (.bin .lt (.var 3) (.un .len (.var 0)))
   (.need (.t true) (.c (.bin .le (.n 0) (.bin (.sub .i64) (.var 3) (.n 1))))
   (.need (.t true) (.c (.bin .lt (.bin (.sub .i64) (.var 3) (.n 1)) (.un .len (.var 0))))
   (.need (.t true) (.c (.bin .le (.n 0) (.var 3)))
   (.need (.t true) (.pre 26 (.cons (.sel 0 (.var 0) (.bin (.sub .i64) (.var 3) (.n 1))) (.cons (.sel 1 (.var 0) (.bin (.sub .i64) (.var 3) (.n 1))) (.cons (.sel 0 (.var 0) (.var 3)) (.cons (.sel 1 (.var 0) (.var 3)) (.cons (.var 4) (.cons (.var 5) (.cons (.var 1) .nil))))))))
   (.lt (.app 26 (.cons (.sel 0 (.var 0) (.bin (.sub .i64) (.var 3) (.n 1))) (.cons (.sel 1 (.var 0) (.bin (.sub .i64) (.var 3) (.n 1))) (.cons (.sel 0 (.var 0) (.var 3)) (.cons (.sel 1 (.var 0) (.var 3)) (.cons (.var 4) (.cons (.var 5) (.cons (.var 1) .nil))))))) 0) 1
   (.ite (.var 6)
    (.ret (.cons (.n 0) (.cons (.t true) (.cons (.var 3) .nil))))
    (.ret (.cons (.n (-1)) (.cons (.var 2) (.cons (.bin (.add .i64) (.var 3) (.n 1)) .nil))))))))))
   (.ret (.cons (.n 1) (.cons (.var 2) (.cons (.var 3) .nil)))))
theorem le9_0 : (loopVT Try.prog (sgOf sg9) (ltOf lt9) L9_0 lb9_0).slim L9_0.nv [] = rt9_0 := by kernel_rfl
theorem lf9_0 : (firstRegion lb9_0).bind (ltOf lt9) = some L9_0 := by kernel_rfl
theorem lk9_0 : (Code.loops lb9_0).length = 0 := by kernel_rfl
def vt9 : VT :=
  (.need (.t true) (.pre 22 (.cons (.var 0) .nil))
  (.lt (.app 22 (.cons (.var 0) .nil) 0) 1
  (.need (.var 4) (.pre 23 (.cons (.var 1) (.cons (.var 2) .nil)))
  (.lt (.app 23 (.cons (.var 1) (.cons (.var 2) .nil)) 0) 1
  (.need (.un .not (.ite (.un .not (.var 4)) (.t true) (.un .not (.var 5)))) (.pre 24 (.cons (.var 3) .nil))
  (.lt (.app 24 (.cons (.var 3) .nil) 0) 1
  (.ite (.ite (.ite (.un .not (.var 4)) (.t true) (.un .not (.var 5))) (.t true) (.un .not (.var 6)))
   (.ret (.cons (.t false) .nil))
   (.need (.t true) (.c (.bin .lt (.n 0) (.un .len (.var 0))))
   (.need (.t true) (.pre 25 (.cons (.sel 0 (.var 0) (.n 0)) (.cons (.sel 1 (.var 0) (.n 0)) (.cons (.var 1) (.cons (.var 2) (.cons (.var 3) .nil))))))
   (.lt (.app 25 (.cons (.sel 0 (.var 0) (.n 0)) (.cons (.sel 1 (.var 0) (.n 0)) (.cons (.var 1) (.cons (.var 2) (.cons (.var 3) .nil))))) 0) 1
   (.ite (.var 7)
    (.ret (.cons (.t true) .nil))
    (.need (.t true) (.pre 10900 (.cons (.var 0) (.cons (.var 3) (.cons (.t false) (.cons (.n 1) (.cons (.var 1) (.cons (.var 2) .nil)))))))
    (.lt (.app 10900 (.cons (.var 0) (.cons (.var 3) (.cons (.t false) (.cons (.n 1) (.cons (.var 1) (.cons (.var 2) .nil)))))) 0) 3
    (.ite (.bin .eq (.var 8) (.n 0))
     (.ret (.cons (.var 9) .nil))
     (.ret (.cons (.t false) .nil))))))))))))))))
theorem e9 : (fnVT Try.prog (sgOf sg9) (ltOf lt9) S9 Try.f9 c9).slim (S9.ps.map fun p => p.2.length).sum [] = vt9 := by kernel_rfl

/-! ### 61 -/
def S61 : Sig := ⟨[(true, [(.int .i64), (.int .i64), (.int .i64), (.int .i64), (.int .i64), (.int .i64), (.sl 24 [(.int .i64), (.int .i64)]), .str])], [(false, [.bool])], [], none⟩
noncomputable def c61 : Code := Try.f61.body.getD .skip
theorem b61 : Try.f61.body = some c61 := body_some (by kernel_rfl)
theorem n61 : (Try.f61.name == "runtime.NumGoroutine") = false := by kernel_rfl
def sg61 : List (FuncId × Sig) := []
def lt61 : List (Nat × LoopSig) := []
theorem k61 : (Code.loops c61).length = 0 := by kernel_rfl
def vt61 : VT :=
  (.ret (.cons (.ite (.bin .le (.n 1) (.var 0)) (.bin .le (.var 0) (.n 4)) (.t false)) .nil))
theorem e61 : (fnVT Try.prog (sgOf sg61) (ltOf lt61) S61 Try.f61 c61).slim (S61.ps.map fun p => p.2.length).sum [] = vt61 := by kernel_rfl
def T61 : FuncId → List D → List D := tabOf []
def fn61 (ρ : List D) : List D := vt61.val T61 ρ
theorem m61 : Meets Try.prog 61 S61 (fun _ => True) fn61 := meets_easy (sgl := sg61) (Φ := T61) mixed ((fun _ h => nomatch h)) Try.func61 b61 n61 k61 e61 (by kernel_rfl)

/-! ### 63 -/
def S63 : Sig := ⟨[(true, [(.int .i64), (.int .i64), (.int .i64), (.int .i64), (.int .i64), (.int .i64), (.sl 24 [(.int .i64), (.int .i64)]), .str])], [(false, [.ifc])], [], none⟩
noncomputable def c63 : Code := Try.f63.body.getD .skip
theorem b63 : Try.f63.body = some c63 := body_some (by kernel_rfl)
theorem n63 : (Try.f63.name == "runtime.NumGoroutine") = false := by kernel_rfl
def sg63 : List (FuncId × Sig) := []
def lt63 : List (Nat × LoopSig) := []
theorem k63 : (Code.loops c63).length = 0 := by kernel_rfl
def vt63 : VT :=
  (.ite (.bin .eq (.var 0) (.n 3))
   (.ret (.cons (.clo 84 [(.sl 24 [(.int .i64), (.int .i64)])] (.cons (.var 6) .nil)) .nil))
   (.ret (.cons (.clo 86 [(.int .i64), (.int .i64), (.int .i64), (.int .i64)] (.cons (.var 2) (.cons (.var 3) (.cons (.var 4) (.cons (.var 5) .nil))))) .nil)))
theorem e63 : (fnVT Try.prog (sgOf sg63) (ltOf lt63) S63 Try.f63 c63).slim (S63.ps.map fun p => p.2.length).sum [] = vt63 := by kernel_rfl
def T63 : FuncId → List D → List D := tabOf []
def fn63 (ρ : List D) : List D := vt63.val T63 ρ
theorem m63 : Meets Try.prog 63 S63 (fun _ => True) fn63 := meets_easy (sgl := sg63) (Φ := T63) mixed ((fun _ h => nomatch h)) Try.func63 b63 n63 k63 e63 (by kernel_rfl)

/-! ### 62 -/
def S62 : Sig := ⟨[(true, [(.int .i64), (.int .i64), (.int .i64), (.int .i64), (.int .i64), (.int .i64), (.sl 24 [(.int .i64), (.int .i64)]), .str])], [(false, [.bool])], [], none⟩
noncomputable def c62 : Code := Try.f62.body.getD .skip
theorem b62 : Try.f62.body = some c62 := body_some (by kernel_rfl)
theorem n62 : (Try.f62.name == "runtime.NumGoroutine") = false := by kernel_rfl
def sg62 : List (FuncId × Sig) := [(63, S63)]
def lt62 : List (Nat × LoopSig) := []
theorem k62 : (Code.loops c62).length = 0 := by kernel_rfl
def vt62 : VT :=
  (.ite (.ite (.un .not (.bin .eq (.var 0) (.n 4))) (.un .not (.bin .seq (.var 7) (.str ⟨#[]⟩))) (.t false))
   (.ret (.cons (.t false) .nil))
   (.need (.t true) (.pre 63 (.cons (.var 0) (.cons (.var 1) (.cons (.var 2) (.cons (.var 3) (.cons (.var 4) (.cons (.var 5) (.cons (.var 6) (.cons (.var 7) .nil)))))))))
   (.lt (.app 63 (.cons (.var 0) (.cons (.var 1) (.cons (.var 2) (.cons (.var 3) (.cons (.var 4) (.cons (.var 5) (.cons (.var 6) (.cons (.var 7) .nil)))))))) 0) 1
   (.need (.t true) (.ct (.un (.tag 84) (.var 8)) [(.sl 24 [(.int .i64), (.int .i64)])] (.var 8))
   (.ite (.un (.tag 84) (.var 8))
    (.ret (.cons (.ite (.bin .eq (.var 2) (.n 0)) (.ite (.bin .eq (.var 3) (.n 0)) (.ite (.bin .eq (.var 4) (.n 0)) (.bin .eq (.var 5) (.n 0)) (.t false)) (.t false)) (.t false)) .nil))
    (.need (.t true) (.ct (.un (.tag 86) (.var 8)) [(.int .i64), (.int .i64), (.int .i64), (.int .i64)] (.var 8))
    (.ite (.un (.tag 86) (.var 8))
     (.ret (.cons (.bin .eq (.un .len (.var 6)) (.n 0)) .nil))
     (.ret (.cons (.t false) .nil)))))))))
theorem e62 : (fnVT Try.prog (sgOf sg62) (ltOf lt62) S62 Try.f62 c62).slim (S62.ps.map fun p => p.2.length).sum [] = vt62 := by kernel_rfl

/-! ### 36 -/
def S36 : Sig := ⟨[(false, [(.sl 24 [(.int .i64), (.int .i64)])])], [(true, [(.int .i64), (.int .i64), (.int .i64), (.int .i64)])], [], none⟩
noncomputable def c36 : Code := Try.f36.body.getD .skip
theorem b36 : Try.f36.body = some c36 := body_some (by kernel_rfl)
theorem n36 : (Try.f36.name == "runtime.NumGoroutine") = false := by kernel_rfl
def sg36 : List (FuncId × Sig) := [(22, S22)]
def L36_0 : LoopSig := ⟨13600, [],
   ⟨[.any, .any, .any, (.c (.ptr 1 0)), .any, .any, .any, .any, .any, .any, .any, .any, .any, .any, .any, .any, .any, .any, .any, .any, .any, .any, .any, .any, .any, .any, .any, (.c (.x (.sl 24 [(.int .i64), (.int .i64)]) (.var 0))), (.c (.x (.int .i64) (.var 1))), (.c (.x (.int .i64) (.var 2))), .any, .any, .any, .any, .any, .any, .any, .any, .any, .any, .any, .any, .any, .any, .any, .any, .any, .any, .any, .any, .any, .any, .any, .any, .any, .any],
    [none, some ⟨(.t true), (.box 28 [(.x (.int .i64) (.var 3)), (.x (.int .i64) (.var 4)), (.x (.int .i64) (.var 5)), (.x (.int .i64) (.var 6))] false)⟩]⟩,
   7, [2, 3, 4, 5, 6], [30, 31, 32, 5, 33, 34, 35, 36, 37, 38, 39, 40, 41, 42, 43, 44, 45, 46, 47, 48, 49, 50, 51, 52, 53, 54, 29], [(.exit 0)], []⟩
def lt36 : List (Nat × LoopSig) := [(5, L36_0)]
theorem k36 : (Code.loops c36).length = 1 := by kernel_rfl
noncomputable def lb36_0 : Code := (Code.loops c36).getD 0 .skip
def rt36_0 : VT :=
  (.ite (.bin .lt (.var 2) (.var 1))
   (.need (.t true) (.c (.bin .le (.n 0) (.var 2)))
   (.need (.t true) (.c (.bin .lt (.var 2) (.un .len (.var 0))))
   (.ret (.cons (.n (-1)) (.cons (.bin (.add .i64) (.var 2) (.n 1)) (.cons (.bin .min (.var 3) (.sel 0 (.var 0) (.var 2))) (.cons (.bin .min (.var 4) (.sel 1 (.var 0) (.var 2))) (.cons (.bin .max (.var 5) (.sel 0 (.var 0) (.var 2))) (.cons (.bin .max (.var 6) (.sel 1 (.var 0) (.var 2))) .nil)))))))))
   (.ret (.cons (.n 0) (.cons (.var 2) (.cons (.var 3) (.cons (.var 4) (.cons (.var 5) (.cons (.var 6) .nil))))))))
theorem le36_0 : (loopVT Try.prog (sgOf sg36) (ltOf lt36) L36_0 lb36_0).slim L36_0.nv [] = rt36_0 := by kernel_rfl
theorem lf36_0 : (firstRegion lb36_0).bind (ltOf lt36) = some L36_0 := by kernel_rfl
theorem lk36_0 : (Code.loops lb36_0).length = 0 := by kernel_rfl
def vt36 : VT :=
  (.need (.t true) (.pre 22 (.cons (.var 0) .nil))
  (.lt (.app 22 (.cons (.var 0) .nil) 0) 1
  (.ite (.un .not (.var 1))
   (.ret (.cons (.n 0) (.cons (.n 0) (.cons (.n 0) (.cons (.n 0) .nil)))))
   (.need (.t true) (.c (.bin .lt (.n 0) (.un .len (.var 0))))
   (.need (.t true) (.pre 13600 (.cons (.var 0) (.cons (.un .len (.var 0)) (.cons (.n 0) (.cons (.sel 0 (.var 0) (.n 0)) (.cons (.sel 1 (.var 0) (.n 0)) (.cons (.sel 0 (.var 0) (.n 0)) (.cons (.sel 1 (.var 0) (.n 0)) .nil))))))))
   (.lt (.app 13600 (.cons (.var 0) (.cons (.un .len (.var 0)) (.cons (.n 0) (.cons (.sel 0 (.var 0) (.n 0)) (.cons (.sel 1 (.var 0) (.n 0)) (.cons (.sel 0 (.var 0) (.n 0)) (.cons (.sel 1 (.var 0) (.n 0)) .nil))))))) 0) 6
   (.ret (.cons (.var 4) (.cons (.var 5) (.cons (.var 6) (.cons (.var 7) .nil)))))))))))
theorem e36 : (fnVT Try.prog (sgOf sg36) (ltOf lt36) S36 Try.f36 c36).slim (S36.ps.map fun p => p.2.length).sum [] = vt36 := by kernel_rfl

/-! ### 85 -/
def S85 : Sig := ⟨[(true, [(.sl 24 [(.int .i64), (.int .i64)])])], [(true, [(.int .i64), (.int .i64), (.int .i64), (.int .i64)]), (false, [.bool])], [], none⟩
noncomputable def c85 : Code := Try.f85.body.getD .skip
theorem b85 : Try.f85.body = some c85 := body_some (by kernel_rfl)
theorem n85 : (Try.f85.name == "runtime.NumGoroutine") = false := by kernel_rfl
def sg85 : List (FuncId × Sig) := [(36, S36), (22, S22)]
def lt85 : List (Nat × LoopSig) := []
theorem k85 : (Code.loops c85).length = 0 := by kernel_rfl
def vt85 : VT :=
  (.need (.t true) (.pre 36 (.cons (.var 0) .nil))
  (.lt (.app 36 (.cons (.var 0) .nil) 0) 4
  (.need (.t true) (.pre 22 (.cons (.var 0) .nil))
  (.lt (.app 22 (.cons (.var 0) .nil) 0) 1
  (.ret (.cons (.var 1) (.cons (.var 2) (.cons (.var 3) (.cons (.var 4) (.cons (.var 5) .nil))))))))))
theorem e85 : (fnVT Try.prog (sgOf sg85) (ltOf lt85) S85 Try.f85 c85).slim (S85.ps.map fun p => p.2.length).sum [] = vt85 := by kernel_rfl

/-! ### 35 -/
def S35 : Sig := ⟨[(true, [(.int .i64), (.int .i64), (.int .i64), (.int .i64)])], [(false, [.bool])], [], none⟩
noncomputable def c35 : Code := Try.f35.body.getD .skip
theorem b35 : Try.f35.body = some c35 := body_some (by kernel_rfl)
theorem n35 : (Try.f35.name == "runtime.NumGoroutine") = false := by kernel_rfl
def sg35 : List (FuncId × Sig) := [(23, S23)]
def lt35 : List (Nat × LoopSig) := []
theorem k35 : (Code.loops c35).length = 0 := by kernel_rfl
def vt35 : VT :=
  (.need (.t true) (.pre 23 (.cons (.var 0) (.cons (.var 1) .nil)))
  (.lt (.app 23 (.cons (.var 0) (.cons (.var 1) .nil)) 0) 1
  (.need (.var 4) (.pre 23 (.cons (.var 2) (.cons (.var 3) .nil)))
  (.lt (.app 23 (.cons (.var 2) (.cons (.var 3) .nil)) 0) 1
  (.ret (.cons (.ite (.ite (.ite (.var 4) (.var 5) (.t false)) (.bin .le (.var 0) (.var 2)) (.t false)) (.bin .le (.var 1) (.var 3)) (.t false)) .nil))))))
theorem e35 : (fnVT Try.prog (sgOf sg35) (ltOf lt35) S35 Try.f35 c35).slim (S35.ps.map fun p => p.2.length).sum [] = vt35 := by kernel_rfl
def T35 : FuncId → List D → List D := tabOf [(23, fn23)]
def fn35 (ρ : List D) : List D := vt35.val T35 ρ
theorem m35 : Meets Try.prog 35 S35 (fun _ => True) fn35 := meets_easy (sgl := sg35) (Φ := T35) mixed (List.forall_mem_cons.2 ⟨m23, (fun _ h => nomatch h)⟩) Try.func35 b35 n35 k35 e35 (by kernel_rfl)

/-! ### 86 -/
def S86 : Sig := ⟨[(true, [(.int .i64), (.int .i64), (.int .i64), (.int .i64)])], [(true, [(.int .i64), (.int .i64), (.int .i64), (.int .i64)]), (false, [.bool])], [], none⟩
noncomputable def c86 : Code := Try.f86.body.getD .skip
theorem b86 : Try.f86.body = some c86 := body_some (by kernel_rfl)
theorem n86 : (Try.f86.name == "runtime.NumGoroutine") = false := by kernel_rfl
def sg86 : List (FuncId × Sig) := [(35, S35)]
def lt86 : List (Nat × LoopSig) := []
theorem k86 : (Code.loops c86).length = 0 := by kernel_rfl
def vt86 : VT :=
  (.need (.t true) (.pre 35 (.cons (.var 0) (.cons (.var 1) (.cons (.var 2) (.cons (.var 3) .nil)))))
  (.lt (.app 35 (.cons (.var 0) (.cons (.var 1) (.cons (.var 2) (.cons (.var 3) .nil)))) 0) 1
  (.ret (.cons (.var 0) (.cons (.var 1) (.cons (.var 2) (.cons (.var 3) (.cons (.var 4) .nil))))))))
theorem e86 : (fnVT Try.prog (sgOf sg86) (ltOf lt86) S86 Try.f86 c86).slim (S86.ps.map fun p => p.2.length).sum [] = vt86 := by kernel_rfl
def T86 : FuncId → List D → List D := tabOf [(35, fn35)]
def fn86 (ρ : List D) : List D := vt86.val T86 ρ
theorem m86 : Meets Try.prog 86 S86 (fun _ => True) fn86 := meets_easy (sgl := sg86) (Φ := T86) mixed (List.forall_mem_cons.2 ⟨m35, (fun _ h => nomatch h)⟩) Try.func86 b86 n86 k86 e86 (by kernel_rfl)

/-! ### 69 -/
def S69 : Sig := ⟨[(false, [(.sl 5 [(.int .u8)])]), (false, [.clo])], [(false, [(.int .i64)])], [], none⟩
noncomputable def c69 : Code := Try.f69.body.getD .skip
theorem b69 : Try.f69.body = some c69 := body_some (by kernel_rfl)
theorem n69 : (Try.f69.name == "runtime.NumGoroutine") = false := by kernel_rfl
def sg69 : List (FuncId × Sig) := [(20006, S20006)]
def L69_0 : LoopSig := ⟨16900, [],
   ⟨[(.c (.x (.sl 5 [(.int .u8)]) (.var 0))), (.c (.x .clo (.var 1))), .any, .any, (.c (.x (.int .i64) (.var 2))), .any, .any, (.c (.x (.int .i64) (.var 3))), (.c (.x (.int .i64) (.var 4))), .any, .any, .any, .any, .any, .any, .any, .any, .any, .any],
    []⟩,
   5, [2, 4], [9, 10, 5, 11, 12, 13, 14, 15, 16, 17, 4, 18, 8], [.ret, (.exit 0)], []⟩
def lt69 : List (Nat × LoopSig) := [(2, L69_0)]
theorem k69 : (Code.loops c69).length = 1 := by kernel_rfl
noncomputable def lb69_0 : Code := (Code.loops c69).getD 0 .skip
def rt69_0 : VT :=
  (.ite (.bin .lt (.var 4) (.var 3))
   (.need (.t true) (.c (.bin .le (.n 0) (.var 4)))
   (.need (.t true) (.c (.bin .lt (.var 4) (.un .len (.var 0))))
   (.need (.t true) (.pre 20006 (.cons (.var 1) (.cons (.sel 0 (.var 0) (.var 4)) .nil)))
   (.lt (.app 20006 (.cons (.var 1) (.cons (.sel 0 (.var 0) (.var 4)) .nil)) 0) 1
   (.ite (.var 5)
    (.ret (.cons (.n 0) (.cons (.var 4) (.cons (.var 4) .nil))))
    (.ret (.cons (.n (-1)) (.cons (.var 2) (.cons (.bin (.add .i64) (.var 4) (.n 1)) .nil)))))))))
   (.ret (.cons (.n 1) (.cons (.var 2) (.cons (.var 4) .nil)))))
theorem le69_0 : (loopVT Try.prog (sgOf sg69) (ltOf lt69) L69_0 lb69_0).slim L69_0.nv [] = rt69_0 := by kernel_rfl
theorem lf69_0 : (firstRegion lb69_0).bind (ltOf lt69) = some L69_0 := by kernel_rfl
theorem lk69_0 : (Code.loops lb69_0).length = 0 := by kernel_rfl
def vt69 : VT :=
  (.need (.t true) (.pre 16900 (.cons (.var 0) (.cons (.var 1) (.cons (.n 0) (.cons (.un .len (.var 0)) (.cons (.n 0) .nil))))))
  (.lt (.app 16900 (.cons (.var 0) (.cons (.var 1) (.cons (.n 0) (.cons (.un .len (.var 0)) (.cons (.n 0) .nil))))) 0) 3
  (.ite (.bin .eq (.var 2) (.n 0))
   (.ret (.cons (.var 3) .nil))
   (.ret (.cons (.n (-1)) .nil)))))
theorem e69 : (fnVT Try.prog (sgOf sg69) (ltOf lt69) S69 Try.f69 c69).slim (S69.ps.map fun p => p.2.length).sum [] = vt69 := by kernel_rfl

/-! ### 67 -/
def S67 : Sig := ⟨[(false, [(.sl 5 [(.int .u8)])]), (false, [.clo])], [(false, [.bool])], [], none⟩
noncomputable def c67 : Code := Try.f67.body.getD .skip
theorem b67 : Try.f67.body = some c67 := body_some (by kernel_rfl)
theorem n67 : (Try.f67.name == "runtime.NumGoroutine") = false := by kernel_rfl
def sg67 : List (FuncId × Sig) := [(69, S69)]
def lt67 : List (Nat × LoopSig) := []
theorem k67 : (Code.loops c67).length = 0 := by kernel_rfl
def vt67 : VT :=
  (.need (.t true) (.pre 69 (.cons (.var 0) (.cons (.var 1) .nil)))
  (.lt (.app 69 (.cons (.var 0) (.cons (.var 1) .nil)) 0) 1
  (.ret (.cons (.bin .le (.n 0) (.var 2)) .nil))))
theorem e67 : (fnVT Try.prog (sgOf sg67) (ltOf lt67) S67 Try.f67 c67).slim (S67.ps.map fun p => p.2.length).sum [] = vt67 := by kernel_rfl

/-! ### 68 -/
def S68 : Sig := ⟨[(false, [(.int .u8)])], [(false, [.bool])], [], none⟩
noncomputable def c68 : Code := Try.f68.body.getD .skip
theorem b68 : Try.f68.body = some c68 := body_some (by kernel_rfl)
theorem n68 : (Try.f68.name == "runtime.NumGoroutine") = false := by kernel_rfl
def sg68 : List (FuncId × Sig) := []
def lt68 : List (Nat × LoopSig) := []
theorem k68 : (Code.loops c68).length = 0 := by kernel_rfl
def vt68 : VT :=
  (.ret (.cons (.ite (.bin .lt (.var 0) (.n 32)) (.t true) (.bin .lt (.n 126) (.var 0))) .nil))
theorem e68 : (fnVT Try.prog (sgOf sg68) (ltOf lt68) S68 Try.f68 c68).slim (S68.ps.map fun p => p.2.length).sum [] = vt68 := by kernel_rfl
def T68 : FuncId → List D → List D := tabOf []
def fn68 (ρ : List D) : List D := vt68.val T68 ρ
theorem m68 : Meets Try.prog 68 S68 (fun _ => True) fn68 := meets_easy (sgl := sg68) (Φ := T68) mixed ((fun _ h => nomatch h)) Try.func68 b68 n68 k68 e68 (by kernel_rfl)

/-! ### 64 -/
def S64 : Sig := ⟨[(false, [.str])], [(false, [.bool])], [], none⟩
noncomputable def c64 : Code := Try.f64.body.getD .skip
theorem b64 : Try.f64.body = some c64 := body_some (by kernel_rfl)
theorem n64 : (Try.f64.name == "runtime.NumGoroutine") = false := by kernel_rfl
def sg64 : List (FuncId × Sig) := [(67, S67)]
def lt64 : List (Nat × LoopSig) := []
theorem k64 : (Code.loops c64).length = 0 := by kernel_rfl
def vt64 : VT :=
  (.need (.t true) (.pre 67 (.cons (.un .bytes (.var 0)) (.cons (.clo 68 [] .nil) .nil)))
  (.lt (.app 67 (.cons (.un .bytes (.var 0)) (.cons (.clo 68 [] .nil) .nil)) 0) 1
  (.ret (.cons (.un .not (.var 1)) .nil))))
theorem e64 : (fnVT Try.prog (sgOf sg64) (ltOf lt64) S64 Try.f64 c64).slim (S64.ps.map fun p => p.2.length).sum [] = vt64 := by kernel_rfl

/-! ### 51 -/
def S51 : Sig := ⟨[(true, [(.int .i64), (.int .i64), (.int .i64), (.int .i64), (.int .i64), (.int .i64), (.sl 24 [(.int .i64), (.int .i64)]), .str])], [(false, [(.int .i64)])], [], none⟩
noncomputable def c51 : Code := Try.f51.body.getD .skip
theorem b51 : Try.f51.body = some c51 := body_some (by kernel_rfl)
theorem n51 : (Try.f51.name == "runtime.NumGoroutine") = false := by kernel_rfl
def sg51 : List (FuncId × Sig) := [(61, S61), (62, S62), (63, S63), (85, S85), (86, S86), (64, S64)]
def lt51 : List (Nat × LoopSig) := []
theorem k51 : (Code.loops c51).length = 0 := by kernel_rfl
def vt51 : VT :=
  (.need (.t true) (.pre 61 (.cons (.var 0) (.cons (.var 1) (.cons (.var 2) (.cons (.var 3) (.cons (.var 4) (.cons (.var 5) (.cons (.var 6) (.cons (.var 7) .nil)))))))))
  (.lt (.app 61 (.cons (.var 0) (.cons (.var 1) (.cons (.var 2) (.cons (.var 3) (.cons (.var 4) (.cons (.var 5) (.cons (.var 6) (.cons (.var 7) .nil)))))))) 0) 1
  (.need (.var 8) (.pre 62 (.cons (.var 0) (.cons (.var 1) (.cons (.var 2) (.cons (.var 3) (.cons (.var 4) (.cons (.var 5) (.cons (.var 6) (.cons (.var 7) .nil)))))))))
  (.lt (.app 62 (.cons (.var 0) (.cons (.var 1) (.cons (.var 2) (.cons (.var 3) (.cons (.var 4) (.cons (.var 5) (.cons (.var 6) (.cons (.var 7) .nil)))))))) 0) 1
  (.ite (.ite (.ite (.un .not (.var 8)) (.t true) (.un .not (.var 9))) (.t true) (.bin .lt (.var 1) (.n 0)))
   (.ret (.cons (.n 1) .nil))
   (.need (.t true) (.pre 63 (.cons (.var 0) (.cons (.var 1) (.cons (.var 2) (.cons (.var 3) (.cons (.var 4) (.cons (.var 5) (.cons (.var 6) (.cons (.var 7) .nil)))))))))
   (.lt (.app 63 (.cons (.var 0) (.cons (.var 1) (.cons (.var 2) (.cons (.var 3) (.cons (.var 4) (.cons (.var 5) (.cons (.var 6) (.cons (.var 7) .nil)))))))) 0) 1
   (.need (.t true) (.c (.ite (.un (.tag 84) (.var 10)) (.t true) (.ite (.un (.tag 86) (.var 10)) (.t true) (.t false))))
   (.need (.t true) (.ct (.un (.tag 84) (.var 10)) [(.sl 24 [(.int .i64), (.int .i64)])] (.var 10))
   (.need (.t true) (.pg (.un (.tag 84) (.var 10)) 85 (.cons (.psel 0 (.var 10)) .nil))
   (.need (.t true) (.ct (.un (.tag 86) (.var 10)) [(.int .i64), (.int .i64), (.int .i64), (.int .i64)] (.var 10))
   (.need (.t true) (.pg (.un (.tag 86) (.var 10)) 86 (.cons (.psel 0 (.var 10)) (.cons (.psel 1 (.var 10)) (.cons (.psel 2 (.var 10)) (.cons (.psel 3 (.var 10)) .nil)))))
   (.ite (.un .not (.ite (.un (.tag 84) (.var 10)) (.app 85 (.cons (.psel 0 (.var 10)) .nil) 4) (.ite (.un (.tag 86) (.var 10)) (.app 86 (.cons (.psel 0 (.var 10)) (.cons (.psel 1 (.var 10)) (.cons (.psel 2 (.var 10)) (.cons (.psel 3 (.var 10)) .nil)))) 4) (.n 0))))
    (.ret (.cons (.n 3) .nil))
    (.need (.bin .eq (.var 0) (.n 4)) (.pre 64 (.cons (.var 7) .nil))
    (.lt (.app 64 (.cons (.var 7) .nil) 0) 1
    (.ite (.ite (.bin .eq (.var 0) (.n 4)) (.ite (.un .not (.var 11)) (.t true) (.bin .lt (.n 32) (.un .slen (.var 7)))) (.t false))
     (.ret (.cons (.n 7) .nil))
     (.ret (.cons (.n 0) .nil))))))))))))))))))
theorem e51 : (fnVT Try.prog (sgOf sg51) (ltOf lt51) S51 Try.f51 c51).slim (S51.ps.map fun p => p.2.length).sum [] = vt51 := by kernel_rfl

/-! ### 65 -/
def S65 : Sig := ⟨[(false, [(.sl 28 [(.int .i64), (.int .i64), (.int .i64), (.int .i64)])])], [(true, [(.int .i64), (.int .i64), (.int .i64), (.int .i64)])], [], none⟩
noncomputable def c65 : Code := Try.f65.body.getD .skip
theorem b65 : Try.f65.body = some c65 := body_some (by kernel_rfl)
theorem n65 : (Try.f65.name == "runtime.NumGoroutine") = false := by kernel_rfl
def sg65 : List (FuncId × Sig) := [(35, S35)]
def L65_0 : LoopSig := ⟨16500, [],
   ⟨[.any, .any, .any, (.c (.ptr 1 0)), (.c (.x .bool (.var 0))), .any, .any, (.c (.x (.sl 28 [(.int .i64), (.int .i64), (.int .i64), (.int .i64)]) (.var 1))), (.c (.x (.int .i64) (.var 2))), (.c (.x (.int .i64) (.var 3))), .any, .any, .any, .any, .any, .any, .any, .any, .any, .any, .any, .any, .any, .any, .any, .any, .any, .any, .any, .any, .any, .any, .any, .any, .any, .any, .any, .any, .any, .any, .any, .any, .any],
    [none, some ⟨(.t true), (.box 28 [(.x (.int .i64) (.var 4)), (.x (.int .i64) (.var 5)), (.x (.int .i64) (.var 6)), (.x (.int .i64) (.var 7))] false)⟩]⟩,
   8, [0, 3, 4, 5, 6, 7], [10, 11, 12, 6, 35, 36, 37, 34, 39, 38, 40, 4, 13, 14, 15, 16, 17, 18, 19, 20, 21, 22, 23, 24, 25, 26, 27, 28, 29, 30, 31, 32, 33, 41, 9], [(.exit 0)], []⟩
def lt65 : List (Nat × LoopSig) := [(4, L65_0)]
theorem k65 : (Code.loops c65).length = 1 := by kernel_rfl
noncomputable def lb65_0 : Code := (Code.loops c65).getD 0 .skip
def rt65_0 : VT :=
  (.ite (.bin .lt (.var 3) (.var 2))
   (.need (.t true) (.c (.bin .le (.n 0) (.var 3)))
   (.need (.t true) (.c (.bin .lt (.var 3) (.un .len (.var 1))))
   (.need (.t true) (.pre 35 (.cons (.sel 0 (.var 1) (.var 3)) (.cons (.sel 1 (.var 1) (.var 3)) (.cons (.sel 2 (.var 1) (.var 3)) (.cons (.sel 3 (.var 1) (.var 3)) .nil)))))
   (.lt (.app 35 (.cons (.sel 0 (.var 1) (.var 3)) (.cons (.sel 1 (.var 1) (.var 3)) (.cons (.sel 2 (.var 1) (.var 3)) (.cons (.sel 3 (.var 1) (.var 3)) .nil)))) 0) 1
   (.ite (.un .not (.var 8))
    (.ret (.cons (.n (-1)) (.cons (.var 0) (.cons (.bin (.add .i64) (.var 3) (.n 1)) (.cons (.var 4) (.cons (.var 5) (.cons (.var 6) (.cons (.var 7) .nil))))))))
    (.ite (.var 0)
     (.ret (.cons (.n (-1)) (.cons (.t false) (.cons (.bin (.add .i64) (.var 3) (.n 1)) (.cons (.sel 0 (.var 1) (.var 3)) (.cons (.sel 1 (.var 1) (.var 3)) (.cons (.sel 2 (.var 1) (.var 3)) (.cons (.sel 3 (.var 1) (.var 3)) .nil))))))))
     (.ret (.cons (.n (-1)) (.cons (.var 0) (.cons (.bin (.add .i64) (.var 3) (.n 1)) (.cons (.bin .min (.var 4) (.sel 0 (.var 1) (.var 3))) (.cons (.bin .min (.var 5) (.sel 1 (.var 1) (.var 3))) (.cons (.bin .max (.var 6) (.sel 2 (.var 1) (.var 3))) (.cons (.bin .max (.var 7) (.sel 3 (.var 1) (.var 3))) .nil))))))))))))))
   (.ret (.cons (.n 0) (.cons (.var 0) (.cons (.var 3) (.cons (.var 4) (.cons (.var 5) (.cons (.var 6) (.cons (.var 7) .nil)))))))))
theorem le65_0 : (loopVT Try.prog (sgOf sg65) (ltOf lt65) L65_0 lb65_0).slim L65_0.nv [] = rt65_0 := by kernel_rfl
theorem lf65_0 : (firstRegion lb65_0).bind (ltOf lt65) = some L65_0 := by kernel_rfl
theorem lk65_0 : (Code.loops lb65_0).length = 0 := by kernel_rfl
def vt65 : VT :=
  (.need (.t true) (.pre 16500 (.cons (.t true) (.cons (.var 0) (.cons (.un .len (.var 0)) (.cons (.n 0) (.cons (.n 0) (.cons (.n 0) (.cons (.n 0) (.cons (.n 0) .nil)))))))))
  (.lt (.app 16500 (.cons (.t true) (.cons (.var 0) (.cons (.un .len (.var 0)) (.cons (.n 0) (.cons (.n 0) (.cons (.n 0) (.cons (.n 0) (.cons (.n 0) .nil)))))))) 0) 7
  (.ret (.cons (.var 4) (.cons (.var 5) (.cons (.var 6) (.cons (.var 7) .nil)))))))
theorem e65 : (fnVT Try.prog (sgOf sg65) (ltOf lt65) S65 Try.f65 c65).slim (S65.ps.map fun p => p.2.length).sum [] = vt65 := by kernel_rfl

/-! ### 52 -/
def S52 : Sig := ⟨[(false, [(.sl 46 [(.int .i64), (.int .i64), (.int .i64), (.int .i64), (.int .i64), (.int .i64), (.sl 24 [(.int .i64), (.int .i64)]), .str])])], [(true, [(.int .i64), (.int .i64), (.int .i64), (.int .i64)])], [], none⟩
noncomputable def c52 : Code := Try.f52.body.getD .skip
theorem b52 : Try.f52.body = some c52 := body_some (by kernel_rfl)
theorem n52 : (Try.f52.name == "runtime.NumGoroutine") = false := by kernel_rfl
def sg52 : List (FuncId × Sig) := [(61, S61), (63, S63), (85, S85), (86, S86), (65, S65)]
def L52_0 : LoopSig := ⟨15200, [(3, none, 28)],
   ⟨[.any, .any, .any, (.c (.row 1 1)), .any, .any, .any, .any, (.c (.x (.sl 46 [(.int .i64), (.int .i64), (.int .i64), (.int .i64), (.int .i64), (.int .i64), (.sl 24 [(.int .i64), (.int .i64)]), .str]) (.var 0))), (.c (.x (.int .i64) (.var 1))), (.c (.x (.int .i64) (.var 2))), .any, .any, .any, .any, .any, .any, .any, .any, .any, .any, .any, .any, .any, .any, .any, .any, .any, .any, .any, .any],
    [none, some ⟨(.t true), (.row 28 [(.int .i64), (.int .i64), (.int .i64), (.int .i64)] (.var 3) 1 false)⟩]⟩,
   4, [2, 3], [11, 12, 13, 5, 14, 15, 16, 18, 19, 20, 17, 21, 22, 6, 7, 23, 24, 25, 26, 27, 3, 28, 10], [(.exit 0)], [3]⟩
def lt52 : List (Nat × LoopSig) := [(3, L52_0)]
theorem k52 : (Code.loops c52).length = 1 := by kernel_rfl
noncomputable def lb52_0 : Code := (Code.loops c52).getD 0 .skip
def rt52_0 : VT :=
  (.ite (.bin .lt (.var 2) (.var 1))
   (.need (.t true) (.c (.bin .le (.n 0) (.var 2)))
   (.need (.t true) (.c (.bin .lt (.var 2) (.un .len (.var 0))))
   (.need (.t true) (.pre 61 (.cons (.sel 0 (.var 0) (.var 2)) (.cons (.sel 1 (.var 0) (.var 2)) (.cons (.sel 2 (.var 0) (.var 2)) (.cons (.sel 3 (.var 0) (.var 2)) (.cons (.sel 4 (.var 0) (.var 2)) (.cons (.sel 5 (.var 0) (.var 2)) (.cons (.sel 6 (.var 0) (.var 2)) (.cons (.sel 7 (.var 0) (.var 2)) .nil)))))))))
   (.lt (.app 61 (.cons (.sel 0 (.var 0) (.var 2)) (.cons (.sel 1 (.var 0) (.var 2)) (.cons (.sel 2 (.var 0) (.var 2)) (.cons (.sel 3 (.var 0) (.var 2)) (.cons (.sel 4 (.var 0) (.var 2)) (.cons (.sel 5 (.var 0) (.var 2)) (.cons (.sel 6 (.var 0) (.var 2)) (.cons (.sel 7 (.var 0) (.var 2)) .nil)))))))) 0) 1
   (.ite (.un .not (.var 4))
    (.ret (.cons (.n (-1)) (.cons (.bin (.add .i64) (.var 2) (.n 1)) (.cons (.var 3) .nil))))
    (.need (.t true) (.pre 63 (.cons (.sel 0 (.var 0) (.var 2)) (.cons (.sel 1 (.var 0) (.var 2)) (.cons (.sel 2 (.var 0) (.var 2)) (.cons (.sel 3 (.var 0) (.var 2)) (.cons (.sel 4 (.var 0) (.var 2)) (.cons (.sel 5 (.var 0) (.var 2)) (.cons (.sel 6 (.var 0) (.var 2)) (.cons (.sel 7 (.var 0) (.var 2)) .nil)))))))))
    (.lt (.app 63 (.cons (.sel 0 (.var 0) (.var 2)) (.cons (.sel 1 (.var 0) (.var 2)) (.cons (.sel 2 (.var 0) (.var 2)) (.cons (.sel 3 (.var 0) (.var 2)) (.cons (.sel 4 (.var 0) (.var 2)) (.cons (.sel 5 (.var 0) (.var 2)) (.cons (.sel 6 (.var 0) (.var 2)) (.cons (.sel 7 (.var 0) (.var 2)) .nil)))))))) 0) 1
    (.need (.t true) (.c (.ite (.un (.tag 84) (.var 5)) (.t true) (.ite (.un (.tag 86) (.var 5)) (.t true) (.t false))))
    (.need (.t true) (.ct (.un (.tag 84) (.var 5)) [(.sl 24 [(.int .i64), (.int .i64)])] (.var 5))
    (.need (.t true) (.pg (.un (.tag 84) (.var 5)) 85 (.cons (.psel 0 (.var 5)) .nil))
    (.need (.t true) (.ct (.un (.tag 86) (.var 5)) [(.int .i64), (.int .i64), (.int .i64), (.int .i64)] (.var 5))
    (.need (.t true) (.pg (.un (.tag 86) (.var 5)) 86 (.cons (.psel 0 (.var 5)) (.cons (.psel 1 (.var 5)) (.cons (.psel 2 (.var 5)) (.cons (.psel 3 (.var 5)) .nil)))))
    (.ite (.ite (.un (.tag 84) (.var 5)) (.app 85 (.cons (.psel 0 (.var 5)) .nil) 4) (.ite (.un (.tag 86) (.var 5)) (.app 86 (.cons (.psel 0 (.var 5)) (.cons (.psel 1 (.var 5)) (.cons (.psel 2 (.var 5)) (.cons (.psel 3 (.var 5)) .nil)))) 4) (.n 0)))
     (.need (.t true) (.c (.bin .le (.un .len (.bin .cat (.var 3) (.lcons (.cons (.ite (.un (.tag 84) (.var 5)) (.app 85 (.cons (.psel 0 (.var 5)) .nil) 0) (.ite (.un (.tag 86) (.var 5)) (.app 86 (.cons (.psel 0 (.var 5)) (.cons (.psel 1 (.var 5)) (.cons (.psel 2 (.var 5)) (.cons (.psel 3 (.var 5)) .nil)))) 0) (.n 0))) (.cons (.ite (.un (.tag 84) (.var 5)) (.app 85 (.cons (.psel 0 (.var 5)) .nil) 1) (.ite (.un (.tag 86) (.var 5)) (.app 86 (.cons (.psel 0 (.var 5)) (.cons (.psel 1 (.var 5)) (.cons (.psel 2 (.var 5)) (.cons (.psel 3 (.var 5)) .nil)))) 1) (.n 0))) (.cons (.ite (.un (.tag 84) (.var 5)) (.app 85 (.cons (.psel 0 (.var 5)) .nil) 2) (.ite (.un (.tag 86) (.var 5)) (.app 86 (.cons (.psel 0 (.var 5)) (.cons (.psel 1 (.var 5)) (.cons (.psel 2 (.var 5)) (.cons (.psel 3 (.var 5)) .nil)))) 2) (.n 0))) (.cons (.ite (.un (.tag 84) (.var 5)) (.app 85 (.cons (.psel 0 (.var 5)) .nil) 3) (.ite (.un (.tag 86) (.var 5)) (.app 86 (.cons (.psel 0 (.var 5)) (.cons (.psel 1 (.var 5)) (.cons (.psel 2 (.var 5)) (.cons (.psel 3 (.var 5)) .nil)))) 3) (.n 0))) .nil)))) .lnil))) (.n 4398046511104)))
     (.ret (.cons (.n (-1)) (.cons (.bin (.add .i64) (.var 2) (.n 1)) (.cons (.bin .cat (.var 3) (.lcons (.cons (.ite (.un (.tag 84) (.var 5)) (.app 85 (.cons (.psel 0 (.var 5)) .nil) 0) (.ite (.un (.tag 86) (.var 5)) (.app 86 (.cons (.psel 0 (.var 5)) (.cons (.psel 1 (.var 5)) (.cons (.psel 2 (.var 5)) (.cons (.psel 3 (.var 5)) .nil)))) 0) (.n 0))) (.cons (.ite (.un (.tag 84) (.var 5)) (.app 85 (.cons (.psel 0 (.var 5)) .nil) 1) (.ite (.un (.tag 86) (.var 5)) (.app 86 (.cons (.psel 0 (.var 5)) (.cons (.psel 1 (.var 5)) (.cons (.psel 2 (.var 5)) (.cons (.psel 3 (.var 5)) .nil)))) 1) (.n 0))) (.cons (.ite (.un (.tag 84) (.var 5)) (.app 85 (.cons (.psel 0 (.var 5)) .nil) 2) (.ite (.un (.tag 86) (.var 5)) (.app 86 (.cons (.psel 0 (.var 5)) (.cons (.psel 1 (.var 5)) (.cons (.psel 2 (.var 5)) (.cons (.psel 3 (.var 5)) .nil)))) 2) (.n 0))) (.cons (.ite (.un (.tag 84) (.var 5)) (.app 85 (.cons (.psel 0 (.var 5)) .nil) 3) (.ite (.un (.tag 86) (.var 5)) (.app 86 (.cons (.psel 0 (.var 5)) (.cons (.psel 1 (.var 5)) (.cons (.psel 2 (.var 5)) (.cons (.psel 3 (.var 5)) .nil)))) 3) (.n 0))) .nil)))) .lnil)) .nil)))))
     (.ret (.cons (.n (-1)) (.cons (.bin (.add .i64) (.var 2) (.n 1)) (.cons (.var 3) .nil)))))))))))))))))
   (.ret (.cons (.n 0) (.cons (.var 2) (.cons (.var 3) .nil)))))
theorem le52_0 : (loopVT Try.prog (sgOf sg52) (ltOf lt52) L52_0 lb52_0).slim L52_0.nv [] = rt52_0 := by kernel_rfl
theorem lf52_0 : (firstRegion lb52_0).bind (ltOf lt52) = some L52_0 := by kernel_rfl
theorem lk52_0 : (Code.loops lb52_0).length = 0 := by kernel_rfl
def vt52 : VT :=
  (.need (.t true) (.pre 15200 (.cons (.var 0) (.cons (.un .len (.var 0)) (.cons (.n 0) (.cons .lnil .nil)))))
  (.lt (.app 15200 (.cons (.var 0) (.cons (.un .len (.var 0)) (.cons (.n 0) (.cons .lnil .nil)))) 0) 3
  (.need (.t true) (.pre 65 (.cons (.var 3) .nil))
  (.lt (.app 65 (.cons (.var 3) .nil) 0) 4
  (.ret (.cons (.var 4) (.cons (.var 5) (.cons (.var 6) (.cons (.var 7) .nil)))))))))
theorem e52 : (fnVT Try.prog (sgOf sg52) (ltOf lt52) S52 Try.f52 c52).slim (S52.ps.map fun p => p.2.length).sum [] = vt52 := by kernel_rfl

/-! ### 30 -/
def S30 : Sig := ⟨[(true, [(.int .i64), (.int .i64), (.int .i64), (.int .i64), (.sl 46 [(.int .i64), (.int .i64), (.int .i64), (.int .i64), (.int .i64), (.int .i64), (.sl 24 [(.int .i64), (.int .i64)]), .str])])], [(false, [(.int .i64)])], [], none⟩
noncomputable def c30 : Code := Try.f30.body.getD .skip
theorem b30 : Try.f30.body = some c30 := body_some (by kernel_rfl)
theorem n30 : (Try.f30.name == "runtime.NumGoroutine") = false := by kernel_rfl
def sg30 : List (FuncId × Sig) := [(51, S51), (52, S52)]
def L30_0 : LoopSig := ⟨13000, [],
   ⟨[.any, .any, (.c (.x (.int .i64) (.var 0))), .any, .any, .any, .any, .any, .any, .any, .any, (.c (.x (.sl 46 [(.int .i64), (.int .i64), (.int .i64), (.int .i64), (.int .i64), (.int .i64), (.sl 24 [(.int .i64), (.int .i64)]), .str]) (.var 1))), (.c (.x (.int .i64) (.var 2))), (.c (.x (.int .i64) (.var 3))), .any, .any, .any, .any, .any, .any, .any, .any, .any, .any, .any, .any, .any, .any, .any],
    [none]⟩,
   4, [0, 3], [14, 15, 16, 4, 17, 18, 5, 19, 20, 21, 2, 22, 13], [.ret, (.exit 0)], []⟩
def lt30 : List (Nat × LoopSig) := [(4, L30_0)]
theorem k30 : (Code.loops c30).length = 1 := by kernel_rfl
noncomputable def lb30_0 : Code := (Code.loops c30).getD 0 .skip
def rt30_0 : VT :=
  (.ite (.bin .lt (.var 3) (.var 2))
   (.need (.t true) (.c (.bin .le (.n 0) (.var 3)))
   (.need (.t true) (.c (.bin .lt (.var 3) (.un .len (.var 1))))
   (.need (.t true) (.pre 51 (.cons (.sel 0 (.var 1) (.var 3)) (.cons (.sel 1 (.var 1) (.var 3)) (.cons (.sel 2 (.var 1) (.var 3)) (.cons (.sel 3 (.var 1) (.var 3)) (.cons (.sel 4 (.var 1) (.var 3)) (.cons (.sel 5 (.var 1) (.var 3)) (.cons (.sel 6 (.var 1) (.var 3)) (.cons (.sel 7 (.var 1) (.var 3)) .nil)))))))))
   (.lt (.app 51 (.cons (.sel 0 (.var 1) (.var 3)) (.cons (.sel 1 (.var 1) (.var 3)) (.cons (.sel 2 (.var 1) (.var 3)) (.cons (.sel 3 (.var 1) (.var 3)) (.cons (.sel 4 (.var 1) (.var 3)) (.cons (.sel 5 (.var 1) (.var 3)) (.cons (.sel 6 (.var 1) (.var 3)) (.cons (.sel 7 (.var 1) (.var 3)) .nil)))))))) 0) 1
   (.ite (.un .not (.bin .eq (.var 4) (.n 0)))
    (.ret (.cons (.n 0) (.cons (.var 4) (.cons (.var 3) .nil))))
    (.ret (.cons (.n (-1)) (.cons (.var 0) (.cons (.bin (.add .i64) (.var 3) (.n 1)) .nil)))))))))
   (.ret (.cons (.n 1) (.cons (.var 0) (.cons (.var 3) .nil)))))
theorem le30_0 : (loopVT Try.prog (sgOf sg30) (ltOf lt30) L30_0 lb30_0).slim L30_0.nv [] = rt30_0 := by kernel_rfl
theorem lf30_0 : (firstRegion lb30_0).bind (ltOf lt30) = some L30_0 := by kernel_rfl
theorem lk30_0 : (Code.loops lb30_0).length = 0 := by kernel_rfl
def vt30 : VT :=
  (.ite (.bin .lt (.n 2048) (.un .len (.var 4)))
   (.ret (.cons (.n 2) .nil))
   (.need (.t true) (.pre 13000 (.cons (.n 0) (.cons (.var 4) (.cons (.un .len (.var 4)) (.cons (.n 0) .nil)))))
   (.lt (.app 13000 (.cons (.n 0) (.cons (.var 4) (.cons (.un .len (.var 4)) (.cons (.n 0) .nil)))) 0) 3
   (.ite (.bin .eq (.var 5) (.n 0))
    (.ret (.cons (.var 6) .nil))
    (.need (.t true) (.pre 52 (.cons (.var 4) .nil))
    (.lt (.app 52 (.cons (.var 4) .nil) 0) 4
    (.ite (.un .not (.ite (.bin .eq (.var 0) (.var 8)) (.ite (.bin .eq (.var 1) (.var 9)) (.ite (.bin .eq (.var 2) (.var 10)) (.bin .eq (.var 3) (.var 11)) (.t false)) (.t false)) (.t false)))
     (.ret (.cons (.n 13) .nil))
     (.ret (.cons (.n 0) .nil)))))))))
theorem e30 : (fnVT Try.prog (sgOf sg30) (ltOf lt30) S30 Try.f30 c30).slim (S30.ps.map fun p => p.2.length).sum [] = vt30 := by kernel_rfl

/-! ### 53 -/
def S53 : Sig := ⟨[(true, [(.int .i64), (.int .i64), (.int .i64), (.int .i64)]), (true, [(.int .i64), (.int .i64)])], [(false, [.bool])], [], none⟩
noncomputable def c53 : Code := Try.f53.body.getD .skip
theorem b53 : Try.f53.body = some c53 := body_some (by kernel_rfl)
theorem n53 : (Try.f53.name == "runtime.NumGoroutine") = false := by kernel_rfl
def sg53 : List (FuncId × Sig) := [(35, S35), (23, S23)]
def lt53 : List (Nat × LoopSig) := []
theorem k53 : (Code.loops c53).length = 0 := by kernel_rfl
def vt53 : VT :=
  (.need (.t true) (.pre 35 (.cons (.var 0) (.cons (.var 1) (.cons (.var 2) (.cons (.var 3) .nil)))))
  (.lt (.app 35 (.cons (.var 0) (.cons (.var 1) (.cons (.var 2) (.cons (.var 3) .nil)))) 0) 1
  (.need (.var 6) (.pre 23 (.cons (.var 4) (.cons (.var 5) .nil)))
  (.lt (.app 23 (.cons (.var 4) (.cons (.var 5) .nil)) 0) 1
  (.ret (.cons (.ite (.ite (.ite (.ite (.ite (.var 6) (.var 7) (.t false)) (.bin .le (.var 0) (.var 4)) (.t false)) (.bin .le (.var 4) (.var 2)) (.t false)) (.bin .le (.var 1) (.var 5)) (.t false)) (.bin .le (.var 5) (.var 3)) (.t false)) .nil))))))
theorem e53 : (fnVT Try.prog (sgOf sg53) (ltOf lt53) S53 Try.f53 c53).slim (S53.ps.map fun p => p.2.length).sum [] = vt53 := by kernel_rfl
def T53 : FuncId → List D → List D := tabOf [(35, fn35), (23, fn23)]
def fn53 (ρ : List D) : List D := vt53.val T53 ρ
theorem m53 : Meets Try.prog 53 S53 (fun _ => True) fn53 := meets_easy (sgl := sg53) (Φ := T53) mixed (List.forall_mem_cons.2 ⟨m35, List.forall_mem_cons.2 ⟨m23, (fun _ h => nomatch h)⟩⟩) Try.func53 b53 n53 k53 e53 (by kernel_rfl)

/-! ### 31 -/
def S31 : Sig := ⟨[(true, [(.int .i64), (.int .i64), (.int .i64), (.int .i64), (.int .i64), (.int .i64), (.sl 24 [(.int .i64), (.int .i64)]), .str]), (true, [(.int .i64), (.int .i64)]), (false, [(.int .i64)])], [(false, [.bool])], [], none⟩
noncomputable def c31 : Code := Try.f31.body.getD .skip
theorem b31 : Try.f31.body = some c31 := body_some (by kernel_rfl)
theorem n31 : (Try.f31.name == "runtime.NumGoroutine") = false := by kernel_rfl
def sg31 : List (FuncId × Sig) := [(9, S9), (53, S53)]
def lt31 : List (Nat × LoopSig) := []
theorem k31 : (Code.loops c31).length = 0 := by kernel_rfl
def vt31 : VT :=
  (.ite (.bin .eq (.var 0) (.n 3))
   (.need (.t true) (.pre 9 (.cons (.var 6) (.cons (.var 8) (.cons (.var 9) (.cons (.var 10) .nil)))))
   (.lt (.app 9 (.cons (.var 6) (.cons (.var 8) (.cons (.var 9) (.cons (.var 10) .nil)))) 0) 1
   (.ret (.cons (.var 11) .nil))))
   (.need (.t true) (.pre 53 (.cons (.var 2) (.cons (.var 3) (.cons (.var 4) (.cons (.var 5) (.cons (.var 8) (.cons (.var 9) .nil)))))))
   (.lt (.app 53 (.cons (.var 2) (.cons (.var 3) (.cons (.var 4) (.cons (.var 5) (.cons (.var 8) (.cons (.var 9) .nil)))))) 0) 1
   (.ret (.cons (.var 11) .nil)))))
theorem e31 : (fnVT Try.prog (sgOf sg31) (ltOf lt31) S31 Try.f31 c31).slim (S31.ps.map fun p => p.2.length).sum [] = vt31 := by kernel_rfl

/-! ### 13 -/
def S13 : Sig := ⟨[(true, [(.int .i64), (.int .i64), (.int .i64), (.int .i64), (.sl 46 [(.int .i64), (.int .i64), (.int .i64), (.int .i64), (.int .i64), (.int .i64), (.sl 24 [(.int .i64), (.int .i64)]), .str])]), (true, [(.int .i64), (.int .i64)]), (false, [(.int .i64)])], [(false, [(.sl 3 [(.int .i64)])])], [], none⟩
noncomputable def c13 : Code := Try.f13.body.getD .skip
theorem b13 : Try.f13.body = some c13 := body_some (by kernel_rfl)
theorem n13 : (Try.f13.name == "runtime.NumGoroutine") = false := by kernel_rfl
def sg13 : List (FuncId × Sig) := [(30, S30), (23, S23), (24, S24), (31, S31)]
def L13_0 : LoopSig := ⟨11300, [(7, none, 3)],
   ⟨[.any, .any, (.c (.x (.int .i64) (.var 0))), (.c (.ptr 0 0)), (.c (.ptr 1 0)), .any, .any, (.c (.row 2 1)), (.c (.x (.int .i64) (.var 1))), .any, .any, .any, .any, .any, .any, .any, .any, .any, .any, .any, .any, .any, .any, .any, .any, .any, .any, .any, .any, .any, .any, .any, .any, .any, .any, .any, .any, .any, .any, .any, .any, .any, .any],
    [some ⟨(.t true), (.box 31 [(.x (.int .i64) (.var 2)), (.x (.int .i64) (.var 3)), (.x (.int .i64) (.var 4)), (.x (.int .i64) (.var 5)), (.x (.sl 46 [(.int .i64), (.int .i64), (.int .i64), (.int .i64), (.int .i64), (.int .i64), (.sl 24 [(.int .i64), (.int .i64)]), .str]) (.var 6))] false)⟩, some ⟨(.t true), (.box 24 [(.x (.int .i64) (.var 7)), (.x (.int .i64) (.var 8))] false)⟩, some ⟨(.t true), (.row 3 [(.int .i64)] (.var 9) 1 false)⟩]⟩,
   10, [1, 9], [26, 27, 30, 31, 32, 33, 34, 35, 36, 37, 38, 39, 40, 41, 7, 28, 29, 8], [(.exit 0)], [9]⟩
def lt13 : List (Nat × LoopSig) := [(5, L13_0)]
theorem k13 : (Code.loops c13).length = 1 := by kernel_rfl
noncomputable def lb13_0 : Code := (Code.loops c13).getD 0 .skip
def rt13_0 : VT :=
  (.ite (.bin .le (.n 0) (.var 1))
   (.need (.t true) (.c (.bin .lt (.var 1) (.un .len (.var 6))))
   (.need (.t true) (.pre 31 (.cons (.sel 0 (.var 6) (.var 1)) (.cons (.sel 1 (.var 6) (.var 1)) (.cons (.sel 2 (.var 6) (.var 1)) (.cons (.sel 3 (.var 6) (.var 1)) (.cons (.sel 4 (.var 6) (.var 1)) (.cons (.sel 5 (.var 6) (.var 1)) (.cons (.sel 6 (.var 6) (.var 1)) (.cons (.sel 7 (.var 6) (.var 1)) (.cons (.var 7) (.cons (.var 8) (.cons (.var 0) .nil))))))))))))
   (.lt (.app 31 (.cons (.sel 0 (.var 6) (.var 1)) (.cons (.sel 1 (.var 6) (.var 1)) (.cons (.sel 2 (.var 6) (.var 1)) (.cons (.sel 3 (.var 6) (.var 1)) (.cons (.sel 4 (.var 6) (.var 1)) (.cons (.sel 5 (.var 6) (.var 1)) (.cons (.sel 6 (.var 6) (.var 1)) (.cons (.sel 7 (.var 6) (.var 1)) (.cons (.var 7) (.cons (.var 8) (.cons (.var 0) .nil))))))))))) 0) 1
   (.ite (.var 10)
    (.need (.t true) (.c (.bin .le (.un .len (.bin .cat (.var 9) (.lcons (.cons (.var 1) .nil) .lnil))) (.n 17592186044416)))
    (.ret (.cons (.n (-1)) (.cons (.bin (.sub .i64) (.var 1) (.n 1)) (.cons (.bin .cat (.var 9) (.lcons (.cons (.var 1) .nil) .lnil)) .nil)))))
    (.ret (.cons (.n (-1)) (.cons (.bin (.sub .i64) (.var 1) (.n 1)) (.cons (.var 9) .nil))))))))
   (.ret (.cons (.n 0) (.cons (.var 1) (.cons (.var 9) .nil)))))
theorem le13_0 : (loopVT Try.prog (sgOf sg13) (ltOf lt13) L13_0 lb13_0).slim L13_0.nv [] = rt13_0 := by kernel_rfl
theorem lf13_0 : (firstRegion lb13_0).bind (ltOf lt13) = some L13_0 := by kernel_rfl
theorem lk13_0 : (Code.loops lb13_0).length = 0 := by kernel_rfl
def vt13 : VT :=
  (.need (.t true) (.pre 30 (.cons (.var 0) (.cons (.var 1) (.cons (.var 2) (.cons (.var 3) (.cons (.var 4) .nil))))))
  (.lt (.app 30 (.cons (.var 0) (.cons (.var 1) (.cons (.var 2) (.cons (.var 3) (.cons (.var 4) .nil))))) 0) 1
  (.need (.bin .eq (.var 8) (.n 0)) (.pre 23 (.cons (.var 5) (.cons (.var 6) .nil)))
  (.lt (.app 23 (.cons (.var 5) (.cons (.var 6) .nil)) 0) 1
  (.need (.un .not (.ite (.un .not (.bin .eq (.var 8) (.n 0))) (.t true) (.un .not (.var 9)))) (.pre 24 (.cons (.var 7) .nil))
  (.lt (.app 24 (.cons (.var 7) .nil) 0) 1
  (.ite (.ite (.ite (.un .not (.bin .eq (.var 8) (.n 0))) (.t true) (.un .not (.var 9))) (.t true) (.un .not (.var 10)))
   (.ret (.cons .lnil .nil))
   (.need (.t true) (.pre 11300 (.cons (.var 7) (.cons (.bin (.sub .i64) (.un .len (.var 4)) (.n 1)) (.cons (.var 0) (.cons (.var 1) (.cons (.var 2) (.cons (.var 3) (.cons (.var 4) (.cons (.var 5) (.cons (.var 6) (.cons .lnil .nil)))))))))))
   (.lt (.app 11300 (.cons (.var 7) (.cons (.bin (.sub .i64) (.un .len (.var 4)) (.n 1)) (.cons (.var 0) (.cons (.var 1) (.cons (.var 2) (.cons (.var 3) (.cons (.var 4) (.cons (.var 5) (.cons (.var 6) (.cons .lnil .nil)))))))))) 0) 3
   (.ret (.cons (.var 13) .nil)))))))))))
theorem e13 : (fnVT Try.prog (sgOf sg13) (ltOf lt13) S13 Try.f13 c13).slim (S13.ps.map fun p => p.2.length).sum [] = vt13 := by kernel_rfl

/-! ### 12 -/
def S12 : Sig := ⟨[(false, [(.sl 3 [(.int .i64)])]), (false, [(.sl 3 [(.int .i64)])])], [(false, [.bool])], [], none⟩
noncomputable def c12 : Code := Try.f12.body.getD .skip
theorem b12 : Try.f12.body = some c12 := body_some (by kernel_rfl)
theorem n12 : (Try.f12.name == "runtime.NumGoroutine") = false := by kernel_rfl
def sg12 : List (FuncId × Sig) := []
def L12_0 : LoopSig := ⟨11200, [],
   ⟨[(.c (.x (.sl 3 [(.int .i64)]) (.var 0))), (.c (.x (.sl 3 [(.int .i64)]) (.var 1))), .any, .any, (.c (.x .bool (.var 2))), (.c (.x (.int .i64) (.var 3))), .any, .any, .any, .any, .any, .any, .any, .any, .any, .any, .any, .any, .any, .any, .any, .any, .any, .any, .any, .any],
    []⟩,
   4, [2, 3], [11, 12, 13, 14, 17, 18, 19, 20, 21, 22, 23, 24, 25, 4, 15, 16, 5], [.ret, (.exit 0)], []⟩
def lt12 : List (Nat × LoopSig) := [(4, L12_0)]
theorem k12 : (Code.loops c12).length = 1 := by kernel_rfl
noncomputable def lb12_0 : Code := (Code.loops c12).getD 0 .skip
def rt12_0 : VT :=
  (.ite (.bin .lt (.var 3) (.un .len (.var 0)))
   (.need (.t true) (.c (.bin .le (.n 0) (.var 3)))
   (.need (.t true) (.c (.bin .lt (.var 3) (.un .len (.var 1))))
   (.ite (.un .not (.bin .eq (.sel 0 (.var 0) (.var 3)) (.sel 0 (.var 1) (.var 3))))
    (.ret (.cons (.n 0) (.cons (.t false) (.cons (.var 3) .nil))))
    (.ret (.cons (.n (-1)) (.cons (.var 2) (.cons (.bin (.add .i64) (.var 3) (.n 1)) .nil)))))))
   (.ret (.cons (.n 1) (.cons (.var 2) (.cons (.var 3) .nil)))))
theorem le12_0 : (loopVT Try.prog (sgOf sg12) (ltOf lt12) L12_0 lb12_0).slim L12_0.nv [] = rt12_0 := by kernel_rfl
theorem lf12_0 : (firstRegion lb12_0).bind (ltOf lt12) = some L12_0 := by kernel_rfl
theorem lk12_0 : (Code.loops lb12_0).length = 0 := by kernel_rfl
def vt12 : VT :=
  (.ite (.un .not (.bin .eq (.un .len (.var 0)) (.un .len (.var 1))))
   (.ret (.cons (.t false) .nil))
   (.need (.t true) (.pre 11200 (.cons (.var 0) (.cons (.var 1) (.cons (.t false) (.cons (.n 0) .nil)))))
   (.lt (.app 11200 (.cons (.var 0) (.cons (.var 1) (.cons (.t false) (.cons (.n 0) .nil)))) 0) 3
   (.ite (.bin .eq (.var 2) (.n 0))
    (.ret (.cons (.var 3) .nil))
    (.ret (.cons (.t true) .nil))))))
theorem e12 : (fnVT Try.prog (sgOf sg12) (ltOf lt12) S12 Try.f12 c12).slim (S12.ps.map fun p => p.2.length).sum [] = vt12 := by kernel_rfl

/-! ### 15 -/
def S15 : Sig := ⟨[(true, [(.int .i64), (.int .i64), (.int .i64), (.int .i64), (.sl 46 [(.int .i64), (.int .i64), (.int .i64), (.int .i64), (.int .i64), (.int .i64), (.sl 24 [(.int .i64), (.int .i64)]), .str])]), (true, [(.int .i64), (.int .i64)]), (false, [(.int .i64)])], [(false, [(.int .i64)])], [], none⟩
noncomputable def c15 : Code := Try.f15.body.getD .skip
theorem b15 : Try.f15.body = some c15 := body_some (by kernel_rfl)
theorem n15 : (Try.f15.name == "runtime.NumGoroutine") = false := by kernel_rfl
def sg15 : List (FuncId × Sig) := [(13, S13)]
def lt15 : List (Nat × LoopSig) := []
theorem k15 : (Code.loops c15).length = 0 := by kernel_rfl
def vt15 : VT :=
  (.need (.t true) (.pre 13 (.cons (.var 0) (.cons (.var 1) (.cons (.var 2) (.cons (.var 3) (.cons (.var 4) (.cons (.var 5) (.cons (.var 6) (.cons (.var 7) .nil)))))))))
  (.lt (.app 13 (.cons (.var 0) (.cons (.var 1) (.cons (.var 2) (.cons (.var 3) (.cons (.var 4) (.cons (.var 5) (.cons (.var 6) (.cons (.var 7) .nil)))))))) 0) 1
  (.ite (.bin .lt (.n 0) (.un .len (.var 8)))
   (.ret (.cons (.sel 0 (.var 8) (.n 0)) .nil))
   (.ret (.cons (.n (-1)) .nil)))))
theorem e15 : (fnVT Try.prog (sgOf sg15) (ltOf lt15) S15 Try.f15 c15).slim (S15.ps.map fun p => p.2.length).sum [] = vt15 := by kernel_rfl

/-! ### 37 -/
def S37 : Sig := ⟨[(true, [(.int .i64), (.int .i64), (.int .i64), (.int .i64)]), (true, [(.int .i64), (.int .i64), (.int .i64), (.int .i64)])], [(false, [.bool])], [], none⟩
noncomputable def c37 : Code := Try.f37.body.getD .skip
theorem b37 : Try.f37.body = some c37 := body_some (by kernel_rfl)
theorem n37 : (Try.f37.name == "runtime.NumGoroutine") = false := by kernel_rfl
def sg37 : List (FuncId × Sig) := [(35, S35)]
def lt37 : List (Nat × LoopSig) := []
theorem k37 : (Code.loops c37).length = 0 := by kernel_rfl
def vt37 : VT :=
  (.need (.t true) (.pre 35 (.cons (.var 0) (.cons (.var 1) (.cons (.var 2) (.cons (.var 3) .nil)))))
  (.lt (.app 35 (.cons (.var 0) (.cons (.var 1) (.cons (.var 2) (.cons (.var 3) .nil)))) 0) 1
  (.need (.var 8) (.pre 35 (.cons (.var 4) (.cons (.var 5) (.cons (.var 6) (.cons (.var 7) .nil)))))
  (.lt (.app 35 (.cons (.var 4) (.cons (.var 5) (.cons (.var 6) (.cons (.var 7) .nil)))) 0) 1
  (.ret (.cons (.ite (.ite (.ite (.ite (.ite (.var 8) (.var 9) (.t false)) (.bin .le (.var 4) (.var 0)) (.t false)) (.bin .le (.var 2) (.var 6)) (.t false)) (.bin .le (.var 5) (.var 1)) (.t false)) (.bin .le (.var 3) (.var 7)) (.t false)) .nil))))))
theorem e37 : (fnVT Try.prog (sgOf sg37) (ltOf lt37) S37 Try.f37 c37).slim (S37.ps.map fun p => p.2.length).sum [] = vt37 := by kernel_rfl
def T37 : FuncId → List D → List D := tabOf [(35, fn35)]
def fn37 (ρ : List D) : List D := vt37.val T37 ρ
theorem m37 : Meets Try.prog 37 S37 (fun _ => True) fn37 := meets_easy (sgl := sg37) (Φ := T37) mixed (List.forall_mem_cons.2 ⟨m35, (fun _ h => nomatch h)⟩) Try.func37 b37 n37 k37 e37 (by kernel_rfl)

/-! ### 18 -/
def S18 : Sig := ⟨[(true, [(.int .i64), (.int .i64), (.int .i64), (.int .i64), (.sl 46 [(.int .i64), (.int .i64), (.int .i64), (.int .i64), (.int .i64), (.int .i64), (.sl 24 [(.int .i64), (.int .i64)]), .str])]), (true, [(.int .i64), (.int .i64), (.int .i64), (.int .i64)])], [(false, [(.sl 3 [(.int .i64)])])], [], none⟩
noncomputable def c18 : Code := Try.f18.body.getD .skip
theorem b18 : Try.f18.body = some c18 := body_some (by kernel_rfl)
theorem n18 : (Try.f18.name == "runtime.NumGoroutine") = false := by kernel_rfl
def sg18 : List (FuncId × Sig) := [(30, S30), (35, S35), (36, S36), (37, S37)]
def L18_0 : LoopSig := ⟨11800, [(5, none, 3)],
   ⟨[.any, .any, .any, (.c (.ptr 1 0)), .any, (.c (.row 2 1)), .any, .any, .any, .any, .any, .any, .any, .any, .any, .any, .any, .any, (.c (.x (.sl 46 [(.int .i64), (.int .i64), (.int .i64), (.int .i64), (.int .i64), (.int .i64), (.sl 24 [(.int .i64), (.int .i64)]), .str]) (.var 0))), (.c (.x (.int .i64) (.var 1))), (.c (.x (.int .i64) (.var 2))), .any, .any, .any, .any, .any, .any, .any, .any, .any, .any, .any, .any, .any, .any, .any, .any, .any, .any, .any, .any, .any],
    [none, some ⟨(.t true), (.box 28 [(.x (.int .i64) (.var 3)), (.x (.int .i64) (.var 4)), (.x (.int .i64) (.var 5)), (.x (.int .i64) (.var 6))] false)⟩, some ⟨(.t true), (.row 3 [(.int .i64)] (.var 7) 1 false)⟩]⟩,
   8, [2, 7], [21, 22, 23, 24, 7, 6, 25, 26, 8, 27, 28, 29, 30, 31, 32, 33, 34, 35, 36, 37, 38, 39, 5, 40, 20], [(.exit 0)], [7]⟩
def lt18 : List (Nat × LoopSig) := [(5, L18_0)]
theorem k18 : (Code.loops c18).length = 1 := by kernel_rfl
noncomputable def lb18_0 : Code := (Code.loops c18).getD 0 .skip
def rt18_0 : VT :=
  (.ite (.bin .lt (.var 2) (.var 1))
   (.need (.t true) (.c (.bin .le (.n 0) (.var 2)))
   (.need (.t true) (.c (.bin .lt (.var 2) (.un .len (.var 0))))
   (.ite (.bin .eq (.sel 0 (.var 0) (.var 2)) (.n 3))
    (.need (.t true) (.pre 36 (.cons (.sel 6 (.var 0) (.var 2)) .nil))
    (.lt (.app 36 (.cons (.sel 6 (.var 0) (.var 2)) .nil) 0) 4
    (.need (.t true) (.pre 37 (.cons (.var 8) (.cons (.var 9) (.cons (.var 10) (.cons (.var 11) (.cons (.var 3) (.cons (.var 4) (.cons (.var 5) (.cons (.var 6) .nil)))))))))
    (.lt (.app 37 (.cons (.var 8) (.cons (.var 9) (.cons (.var 10) (.cons (.var 11) (.cons (.var 3) (.cons (.var 4) (.cons (.var 5) (.cons (.var 6) .nil)))))))) 0) 1
    (.ite (.var 12)
     (.need (.t true) (.c (.bin .le (.un .len (.bin .cat (.var 7) (.lcons (.cons (.var 2) .nil) .lnil))) (.n 17592186044416)))
     (.ret (.cons (.n (-1)) (.cons (.bin (.add .i64) (.var 2) (.n 1)) (.cons (.bin .cat (.var 7) (.lcons (.cons (.var 2) .nil) .lnil)) .nil)))))
     (.ret (.cons (.n (-1)) (.cons (.bin (.add .i64) (.var 2) (.n 1)) (.cons (.var 7) .nil)))))))))
    (.need (.t true) (.pre 37 (.cons (.sel 2 (.var 0) (.var 2)) (.cons (.sel 3 (.var 0) (.var 2)) (.cons (.sel 4 (.var 0) (.var 2)) (.cons (.sel 5 (.var 0) (.var 2)) (.cons (.var 3) (.cons (.var 4) (.cons (.var 5) (.cons (.var 6) .nil)))))))))
    (.lt (.app 37 (.cons (.sel 2 (.var 0) (.var 2)) (.cons (.sel 3 (.var 0) (.var 2)) (.cons (.sel 4 (.var 0) (.var 2)) (.cons (.sel 5 (.var 0) (.var 2)) (.cons (.var 3) (.cons (.var 4) (.cons (.var 5) (.cons (.var 6) .nil)))))))) 0) 1
    (.ite (.var 8)
     (.need (.t true) (.c (.bin .le (.un .len (.bin .cat (.var 7) (.lcons (.cons (.var 2) .nil) .lnil))) (.n 17592186044416)))
     (.ret (.cons (.n (-1)) (.cons (.bin (.add .i64) (.var 2) (.n 1)) (.cons (.bin .cat (.var 7) (.lcons (.cons (.var 2) .nil) .lnil)) .nil)))))
     (.ret (.cons (.n (-1)) (.cons (.bin (.add .i64) (.var 2) (.n 1)) (.cons (.var 7) .nil))))))))))
   (.ret (.cons (.n 0) (.cons (.var 2) (.cons (.var 7) .nil)))))
theorem le18_0 : (loopVT Try.prog (sgOf sg18) (ltOf lt18) L18_0 lb18_0).slim L18_0.nv [] = rt18_0 := by kernel_rfl
theorem lf18_0 : (firstRegion lb18_0).bind (ltOf lt18) = some L18_0 := by kernel_rfl
theorem lk18_0 : (Code.loops lb18_0).length = 0 := by kernel_rfl
def vt18 : VT :=
  (.need (.t true) (.pre 30 (.cons (.var 0) (.cons (.var 1) (.cons (.var 2) (.cons (.var 3) (.cons (.var 4) .nil))))))
  (.lt (.app 30 (.cons (.var 0) (.cons (.var 1) (.cons (.var 2) (.cons (.var 3) (.cons (.var 4) .nil))))) 0) 1
  (.need (.bin .eq (.var 9) (.n 0)) (.pre 35 (.cons (.var 5) (.cons (.var 6) (.cons (.var 7) (.cons (.var 8) .nil)))))
  (.lt (.app 35 (.cons (.var 5) (.cons (.var 6) (.cons (.var 7) (.cons (.var 8) .nil)))) 0) 1
  (.ite (.ite (.un .not (.bin .eq (.var 9) (.n 0))) (.t true) (.un .not (.var 10)))
   (.ret (.cons .lnil .nil))
   (.need (.t true) (.pre 11800 (.cons (.var 4) (.cons (.un .len (.var 4)) (.cons (.n 0) (.cons (.var 5) (.cons (.var 6) (.cons (.var 7) (.cons (.var 8) (.cons .lnil .nil)))))))))
   (.lt (.app 11800 (.cons (.var 4) (.cons (.un .len (.var 4)) (.cons (.n 0) (.cons (.var 5) (.cons (.var 6) (.cons (.var 7) (.cons (.var 8) (.cons .lnil .nil)))))))) 0) 3
   (.ret (.cons (.var 13) .nil)))))))))
theorem e18 : (fnVT Try.prog (sgOf sg18) (ltOf lt18) S18 Try.f18 c18).slim (S18.ps.map fun p => p.2.length).sum [] = vt18 := by kernel_rfl

/-! ### 8 -/
def S8 : Sig := ⟨[], [(false, [.bool])], [], none⟩
noncomputable def c8 : Code := Try.f8.body.getD .skip
theorem b8 : Try.f8.body = some c8 := body_some (by kernel_rfl)
theorem n8 : (Try.f8.name == "runtime.NumGoroutine") = false := by kernel_rfl
def sg8 : List (FuncId × Sig) := [(9, S9), (13, S13), (12, S12), (15, S15), (18, S18)]
def lt8 : List (Nat × LoopSig) := []
theorem k8 : (Code.loops c8).length = 0 := by kernel_rfl
def vt8 : VT :=
  (.need (.t true) (.pre 9 (.cons (.lcons (.cons (.n 0) (.cons (.n 0) .nil)) (.lcons (.cons (.n 6) (.cons (.n 0) .nil)) .lnil)) (.cons (.n 3) (.cons (.n 4) (.cons (.n 4) .nil)))))
  (.lt (.app 9 (.cons (.lcons (.cons (.n 0) (.cons (.n 0) .nil)) (.lcons (.cons (.n 6) (.cons (.n 0) .nil)) .lnil)) (.cons (.n 3) (.cons (.n 4) (.cons (.n 4) .nil)))) 0) 1
  (.need (.var 0) (.pre 9 (.cons (.lcons (.cons (.n 0) (.cons (.n 0) .nil)) (.lcons (.cons (.n 6) (.cons (.n 0) .nil)) .lnil)) (.cons (.n 3) (.cons (.n 4) (.cons (.n 3) .nil)))))
  (.lt (.app 9 (.cons (.lcons (.cons (.n 0) (.cons (.n 0) .nil)) (.lcons (.cons (.n 6) (.cons (.n 0) .nil)) .lnil)) (.cons (.n 3) (.cons (.n 4) (.cons (.n 3) .nil)))) 0) 1
  (.need (.ite (.var 0) (.un .not (.var 1)) (.t false)) (.c (.bin .le (.n 1) (.un .len (.lcons (.cons (.n 0) (.cons (.n 0) .nil)) (.lcons (.cons (.n 6) (.cons (.n 0) .nil)) .lnil)))))
  (.need (.ite (.var 0) (.un .not (.var 1)) (.t false)) (.pre 9 (.cons (.sub (.lcons (.cons (.n 0) (.cons (.n 0) .nil)) (.lcons (.cons (.n 6) (.cons (.n 0) .nil)) .lnil)) (.n 0) (.n 1)) (.cons (.n 3) (.cons (.n 4) (.cons (.n 5) .nil)))))
  (.lt (.app 9 (.cons (.sub (.lcons (.cons (.n 0) (.cons (.n 0) .nil)) (.lcons (.cons (.n 6) (.cons (.n 0) .nil)) .lnil)) (.n 0) (.n 1)) (.cons (.n 3) (.cons (.n 4) (.cons (.n 5) .nil)))) 0) 1
  (.need (.ite (.ite (.var 0) (.un .not (.var 1)) (.t false)) (.var 2) (.t false)) (.c (.bin .le (.n 1) (.un .len (.lcons (.cons (.n 0) (.cons (.n 0) .nil)) (.lcons (.cons (.n 6) (.cons (.n 0) .nil)) .lnil)))))
  (.need (.ite (.ite (.var 0) (.un .not (.var 1)) (.t false)) (.var 2) (.t false)) (.pre 9 (.cons (.sub (.lcons (.cons (.n 0) (.cons (.n 0) .nil)) (.lcons (.cons (.n 6) (.cons (.n 0) .nil)) .lnil)) (.n 0) (.n 1)) (.cons (.n 3) (.cons (.n 4) (.cons (.n 4) .nil)))))
  (.lt (.app 9 (.cons (.sub (.lcons (.cons (.n 0) (.cons (.n 0) .nil)) (.lcons (.cons (.n 6) (.cons (.n 0) .nil)) .lnil)) (.n 0) (.n 1)) (.cons (.n 3) (.cons (.n 4) (.cons (.n 4) .nil)))) 0) 1
  (.need (.ite (.ite (.ite (.var 0) (.un .not (.var 1)) (.t false)) (.var 2) (.t false)) (.un .not (.var 3)) (.t false)) (.pre 13 (.cons (.n 0) (.cons (.n 0) (.cons (.n 6) (.cons (.n 6) (.cons (.lcons (.cons (.n 2) (.cons (.n 0) (.cons (.n 0) (.cons (.n 0) (.cons (.n 6) (.cons (.n 6) (.cons .lnil (.cons (.str ⟨#[]⟩) .nil)))))))) (.lcons (.cons (.n 3) (.cons (.n 0) (.cons (.n 0) (.cons (.n 0) (.cons (.n 0) (.cons (.n 0) (.cons (.lcons (.cons (.n 0) (.cons (.n 0) .nil)) (.lcons (.cons (.n 6) (.cons (.n 0) .nil)) .lnil)) (.cons (.str ⟨#[]⟩) .nil)))))))) .lnil)) (.cons (.n 3) (.cons (.n 4) (.cons (.n 4) .nil)))))))))
  (.lt (.app 13 (.cons (.n 0) (.cons (.n 0) (.cons (.n 6) (.cons (.n 6) (.cons (.lcons (.cons (.n 2) (.cons (.n 0) (.cons (.n 0) (.cons (.n 0) (.cons (.n 6) (.cons (.n 6) (.cons .lnil (.cons (.str ⟨#[]⟩) .nil)))))))) (.lcons (.cons (.n 3) (.cons (.n 0) (.cons (.n 0) (.cons (.n 0) (.cons (.n 0) (.cons (.n 0) (.cons (.lcons (.cons (.n 0) (.cons (.n 0) .nil)) (.lcons (.cons (.n 6) (.cons (.n 0) .nil)) .lnil)) (.cons (.str ⟨#[]⟩) .nil)))))))) .lnil)) (.cons (.n 3) (.cons (.n 4) (.cons (.n 4) .nil)))))))) 0) 1
  (.need (.ite (.ite (.ite (.var 0) (.un .not (.var 1)) (.t false)) (.var 2) (.t false)) (.un .not (.var 3)) (.t false)) (.pre 12 (.cons (.var 4) (.cons (.lcons (.cons (.n 1) .nil) (.lcons (.cons (.n 0) .nil) .lnil)) .nil)))
  (.lt (.app 12 (.cons (.var 4) (.cons (.lcons (.cons (.n 1) .nil) (.lcons (.cons (.n 0) .nil) .lnil)) .nil)) 0) 1
  (.need (.ite (.ite (.ite (.ite (.var 0) (.un .not (.var 1)) (.t false)) (.var 2) (.t false)) (.un .not (.var 3)) (.t false)) (.var 5) (.t false)) (.pre 15 (.cons (.n 0) (.cons (.n 0) (.cons (.n 6) (.cons (.n 6) (.cons (.lcons (.cons (.n 2) (.cons (.n 0) (.cons (.n 0) (.cons (.n 0) (.cons (.n 6) (.cons (.n 6) (.cons .lnil (.cons (.str ⟨#[]⟩) .nil)))))))) (.lcons (.cons (.n 3) (.cons (.n 0) (.cons (.n 0) (.cons (.n 0) (.cons (.n 0) (.cons (.n 0) (.cons (.lcons (.cons (.n 0) (.cons (.n 0) .nil)) (.lcons (.cons (.n 6) (.cons (.n 0) .nil)) .lnil)) (.cons (.str ⟨#[]⟩) .nil)))))))) .lnil)) (.cons (.n 3) (.cons (.n 4) (.cons (.n 3) .nil)))))))))
  (.lt (.app 15 (.cons (.n 0) (.cons (.n 0) (.cons (.n 6) (.cons (.n 6) (.cons (.lcons (.cons (.n 2) (.cons (.n 0) (.cons (.n 0) (.cons (.n 0) (.cons (.n 6) (.cons (.n 6) (.cons .lnil (.cons (.str ⟨#[]⟩) .nil)))))))) (.lcons (.cons (.n 3) (.cons (.n 0) (.cons (.n 0) (.cons (.n 0) (.cons (.n 0) (.cons (.n 0) (.cons (.lcons (.cons (.n 0) (.cons (.n 0) .nil)) (.lcons (.cons (.n 6) (.cons (.n 0) .nil)) .lnil)) (.cons (.str ⟨#[]⟩) .nil)))))))) .lnil)) (.cons (.n 3) (.cons (.n 4) (.cons (.n 3) .nil)))))))) 0) 1
  (.need (.ite (.ite (.ite (.ite (.ite (.var 0) (.un .not (.var 1)) (.t false)) (.var 2) (.t false)) (.un .not (.var 3)) (.t false)) (.var 5) (.t false)) (.bin .eq (.var 6) (.n 0)) (.t false)) (.pre 15 (.cons (.n 0) (.cons (.n 0) (.cons (.n 6) (.cons (.n 6) (.cons (.lcons (.cons (.n 2) (.cons (.n 0) (.cons (.n 0) (.cons (.n 0) (.cons (.n 6) (.cons (.n 6) (.cons .lnil (.cons (.str ⟨#[]⟩) .nil)))))))) (.lcons (.cons (.n 3) (.cons (.n 0) (.cons (.n 0) (.cons (.n 0) (.cons (.n 0) (.cons (.n 0) (.cons (.lcons (.cons (.n 0) (.cons (.n 0) .nil)) (.lcons (.cons (.n 6) (.cons (.n 0) .nil)) .lnil)) (.cons (.str ⟨#[]⟩) .nil)))))))) .lnil)) (.cons (.n 9) (.cons (.n 0) (.cons (.n 1) .nil)))))))))
  (.lt (.app 15 (.cons (.n 0) (.cons (.n 0) (.cons (.n 6) (.cons (.n 6) (.cons (.lcons (.cons (.n 2) (.cons (.n 0) (.cons (.n 0) (.cons (.n 0) (.cons (.n 6) (.cons (.n 6) (.cons .lnil (.cons (.str ⟨#[]⟩) .nil)))))))) (.lcons (.cons (.n 3) (.cons (.n 0) (.cons (.n 0) (.cons (.n 0) (.cons (.n 0) (.cons (.n 0) (.cons (.lcons (.cons (.n 0) (.cons (.n 0) .nil)) (.lcons (.cons (.n 6) (.cons (.n 0) .nil)) .lnil)) (.cons (.str ⟨#[]⟩) .nil)))))))) .lnil)) (.cons (.n 9) (.cons (.n 0) (.cons (.n 1) .nil)))))))) 0) 1
  (.need (.ite (.ite (.ite (.ite (.ite (.ite (.var 0) (.un .not (.var 1)) (.t false)) (.var 2) (.t false)) (.un .not (.var 3)) (.t false)) (.var 5) (.t false)) (.bin .eq (.var 6) (.n 0)) (.t false)) (.bin .eq (.var 7) (.n (-1))) (.t false)) (.pre 18 (.cons (.n 0) (.cons (.n 0) (.cons (.n 6) (.cons (.n 6) (.cons (.lcons (.cons (.n 2) (.cons (.n 0) (.cons (.n 0) (.cons (.n 0) (.cons (.n 6) (.cons (.n 6) (.cons .lnil (.cons (.str ⟨#[]⟩) .nil)))))))) (.lcons (.cons (.n 3) (.cons (.n 0) (.cons (.n 0) (.cons (.n 0) (.cons (.n 0) (.cons (.n 0) (.cons (.lcons (.cons (.n 0) (.cons (.n 0) .nil)) (.lcons (.cons (.n 6) (.cons (.n 0) .nil)) .lnil)) (.cons (.str ⟨#[]⟩) .nil)))))))) .lnil)) (.cons (.n 0) (.cons (.n 0) (.cons (.n 7) (.cons (.n 2) .nil))))))))))
  (.lt (.app 18 (.cons (.n 0) (.cons (.n 0) (.cons (.n 6) (.cons (.n 6) (.cons (.lcons (.cons (.n 2) (.cons (.n 0) (.cons (.n 0) (.cons (.n 0) (.cons (.n 6) (.cons (.n 6) (.cons .lnil (.cons (.str ⟨#[]⟩) .nil)))))))) (.lcons (.cons (.n 3) (.cons (.n 0) (.cons (.n 0) (.cons (.n 0) (.cons (.n 0) (.cons (.n 0) (.cons (.lcons (.cons (.n 0) (.cons (.n 0) .nil)) (.lcons (.cons (.n 6) (.cons (.n 0) .nil)) .lnil)) (.cons (.str ⟨#[]⟩) .nil)))))))) .lnil)) (.cons (.n 0) (.cons (.n 0) (.cons (.n 7) (.cons (.n 2) .nil))))))))) 0) 1
  (.need (.ite (.ite (.ite (.ite (.ite (.ite (.var 0) (.un .not (.var 1)) (.t false)) (.var 2) (.t false)) (.un .not (.var 3)) (.t false)) (.var 5) (.t false)) (.bin .eq (.var 6) (.n 0)) (.t false)) (.bin .eq (.var 7) (.n (-1))) (.t false)) (.pre 12 (.cons (.var 8) (.cons (.lcons (.cons (.n 1) .nil) .lnil) .nil)))
  (.lt (.app 12 (.cons (.var 8) (.cons (.lcons (.cons (.n 1) .nil) .lnil) .nil)) 0) 1
  (.ret (.cons (.ite (.ite (.ite (.ite (.ite (.ite (.ite (.var 0) (.un .not (.var 1)) (.t false)) (.var 2) (.t false)) (.un .not (.var 3)) (.t false)) (.var 5) (.t false)) (.bin .eq (.var 6) (.n 0)) (.t false)) (.bin .eq (.var 7) (.n (-1))) (.t false)) (.var 9) (.t false)) .nil))))))))))))))))))))))))
theorem e8 : (fnVT Try.prog (sgOf sg8) (ltOf lt8) S8 Try.f8 c8).slim (S8.ps.map fun p => p.2.length).sum [] = vt8 := by kernel_rfl

/-! ### 41 -/
def S41 : Sig := ⟨[(true, [(.int .i64), (.int .i64)])], [(false, [.bool])], [], none⟩
noncomputable def c41 : Code := Try.f41.body.getD .skip
theorem b41 : Try.f41.body = some c41 := body_some (by kernel_rfl)
theorem n41 : (Try.f41.name == "runtime.NumGoroutine") = false := by kernel_rfl
def sg41 : List (FuncId × Sig) := []
def lt41 : List (Nat × LoopSig) := []
theorem k41 : (Code.loops c41).length = 0 := by kernel_rfl
def vt41 : VT :=
  (.ret (.cons (.ite (.ite (.ite (.bin .le (.n (-268435456)) (.var 0)) (.bin .le (.var 0) (.n 268435456)) (.t false)) (.bin .le (.n (-268435456)) (.var 1)) (.t false)) (.bin .le (.var 1) (.n 268435456)) (.t false)) .nil))
theorem e41 : (fnVT Try.prog (sgOf sg41) (ltOf lt41) S41 Try.f41 c41).slim (S41.ps.map fun p => p.2.length).sum [] = vt41 := by kernel_rfl
def T41 : FuncId → List D → List D := tabOf []
def fn41 (ρ : List D) : List D := vt41.val T41 ρ
theorem m41 : Meets Try.prog 41 S41 (fun _ => True) fn41 := meets_easy (sgl := sg41) (Φ := T41) mixed ((fun _ h => nomatch h)) Try.func41 b41 n41 k41 e41 (by kernel_rfl)

/-! ### 21 -/
def S21 : Sig := ⟨[(false, [(.sl 24 [(.int .i64), (.int .i64)])])], [(false, [.bool])], [], none⟩
noncomputable def c21 : Code := Try.f21.body.getD .skip
theorem b21 : Try.f21.body = some c21 := body_some (by kernel_rfl)
theorem n21 : (Try.f21.name == "runtime.NumGoroutine") = false := by kernel_rfl
def sg21 : List (FuncId × Sig) := [(41, S41)]
def L21_0 : LoopSig := ⟨12100, [],
   ⟨[(.c (.x (.sl 24 [(.int .i64), (.int .i64)]) (.var 0))), .any, (.c (.x .bool (.var 1))), (.c (.x (.int .i64) (.var 2))), .any, .any, .any, .any, .any, .any, .any, .any, .any, .any, .any, .any, .any, .any, .any, .any, .any, .any, .any, .any, .any, .any, .any, .any, .any, .any, .any, .any, .any, .any, .any, .any, .any, .any, .any, .any],
    []⟩,
   3, [1, 2], [12, 13, 14, 15, 18, 19, 20, 21, 22, 23, 24, 25, 26, 27, 28, 29, 30, 31, 32, 33, 34, 35, 36, 37, 38, 39, 2, 16, 17, 3], [.ret, (.exit 0)], []⟩
def lt21 : List (Nat × LoopSig) := [(4, L21_0)]
theorem k21 : (Code.loops c21).length = 1 := by kernel_rfl
noncomputable def lb21_0 : Code := (Code.loops c21).getD 0 .skip
def rt21_0 : VT :=
  (.ite (.bin .lt (.var 2) (.un .len (.var 0)))
   (.need (.t true) (.c (.bin .le (.n 0) (.var 2)))
   (.need (.t true) (.pre 41 (.cons (.sel 0 (.var 0) (.var 2)) (.cons (.sel 1 (.var 0) (.var 2)) .nil)))
   (.lt (.app 41 (.cons (.sel 0 (.var 0) (.var 2)) (.cons (.sel 1 (.var 0) (.var 2)) .nil)) 0) 1
   (.need (.ite (.var 3) (.bin .lt (.n 0) (.var 2)) (.t false)) (.c (.bin .le (.n 0) (.bin (.sub .i64) (.var 2) (.n 1))))
   (.need (.ite (.var 3) (.bin .lt (.n 0) (.var 2)) (.t false)) (.c (.bin .lt (.bin (.sub .i64) (.var 2) (.n 1)) (.un .len (.var 0))))
   (.ite (.ite (.un .not (.var 3)) (.t true) (.ite (.bin .lt (.n 0) (.var 2)) (.ite (.bin .eq (.sel 0 (.var 0) (.var 2)) (.sel 0 (.var 0) (.bin (.sub .i64) (.var 2) (.n 1)))) (.bin .eq (.sel 1 (.var 0) (.var 2)) (.sel 1 (.var 0) (.bin (.sub .i64) (.var 2) (.n 1)))) (.t false)) (.t false)))
    (.ret (.cons (.n 0) (.cons (.t false) (.cons (.var 2) .nil))))
    (.ret (.cons (.n (-1)) (.cons (.var 1) (.cons (.bin (.add .i64) (.var 2) (.n 1)) .nil))))))))))
   (.ret (.cons (.n 1) (.cons (.var 1) (.cons (.var 2) .nil)))))
theorem le21_0 : (loopVT Try.prog (sgOf sg21) (ltOf lt21) L21_0 lb21_0).slim L21_0.nv [] = rt21_0 := by kernel_rfl
theorem lf21_0 : (firstRegion lb21_0).bind (ltOf lt21) = some L21_0 := by kernel_rfl
theorem lk21_0 : (Code.loops lb21_0).length = 0 := by kernel_rfl
def vt21 : VT :=
  (.ite (.ite (.bin .lt (.un .len (.var 0)) (.n 1)) (.t true) (.bin .lt (.n 512) (.un .len (.var 0))))
   (.ret (.cons (.t false) .nil))
   (.need (.t true) (.pre 12100 (.cons (.var 0) (.cons (.t false) (.cons (.n 0) .nil))))
   (.lt (.app 12100 (.cons (.var 0) (.cons (.t false) (.cons (.n 0) .nil))) 0) 3
   (.ite (.bin .eq (.var 1) (.n 0))
    (.ret (.cons (.var 2) .nil))
    (.ret (.cons (.t true) .nil))))))
theorem e21 : (fnVT Try.prog (sgOf sg21) (ltOf lt21) S21 Try.f21 c21).slim (S21.ps.map fun p => p.2.length).sum [] = vt21 := by kernel_rfl

/-! ### 27 -/
def S27 : Sig := ⟨[(true, [(.int .i64), (.int .i64)])], [(false, [.bool])], [], none⟩
noncomputable def c27 : Code := Try.f27.body.getD .skip
theorem b27 : Try.f27.body = some c27 := body_some (by kernel_rfl)
theorem n27 : (Try.f27.name == "runtime.NumGoroutine") = false := by kernel_rfl
def sg27 : List (FuncId × Sig) := []
def lt27 : List (Nat × LoopSig) := []
theorem k27 : (Code.loops c27).length = 0 := by kernel_rfl
def vt27 : VT :=
  (.ret (.cons (.ite (.ite (.ite (.bin .le (.n (-268435456)) (.var 0)) (.bin .le (.var 0) (.n 268435456)) (.t false)) (.bin .le (.n (-268435456)) (.var 1)) (.t false)) (.bin .le (.var 1) (.n 268435456)) (.t false)) .nil))
theorem e27 : (fnVT Try.prog (sgOf sg27) (ltOf lt27) S27 Try.f27 c27).slim (S27.ps.map fun p => p.2.length).sum [] = vt27 := by kernel_rfl
def T27 : FuncId → List D → List D := tabOf []
def fn27 (ρ : List D) : List D := vt27.val T27 ρ
theorem m27 : Meets Try.prog 27 S27 (fun _ => True) fn27 := meets_easy (sgl := sg27) (Φ := T27) mixed ((fun _ h => nomatch h)) Try.func27 b27 n27 k27 e27 (by kernel_rfl)

/-! ### 28 -/
def S28 : Sig := ⟨[(false, [(.int .i64)])], [(false, [.bool])], [], none⟩
noncomputable def c28 : Code := Try.f28.body.getD .skip
theorem b28 : Try.f28.body = some c28 := body_some (by kernel_rfl)
theorem n28 : (Try.f28.name == "runtime.NumGoroutine") = false := by kernel_rfl
def sg28 : List (FuncId × Sig) := []
def lt28 : List (Nat × LoopSig) := []
theorem k28 : (Code.loops c28).length = 0 := by kernel_rfl
def vt28 : VT :=
  (.ret (.cons (.ite (.bin .le (.n 0) (.var 0)) (.bin .le (.var 0) (.n 1048576)) (.t false)) .nil))
theorem e28 : (fnVT Try.prog (sgOf sg28) (ltOf lt28) S28 Try.f28 c28).slim (S28.ps.map fun p => p.2.length).sum [] = vt28 := by kernel_rfl
def T28 : FuncId → List D → List D := tabOf []
def fn28 (ρ : List D) : List D := vt28.val T28 ρ
theorem m28 : Meets Try.prog 28 S28 (fun _ => True) fn28 := meets_easy (sgl := sg28) (Φ := T28) mixed ((fun _ h => nomatch h)) Try.func28 b28 n28 k28 e28 (by kernel_rfl)

/-! ### 47 -/
def S47 : Sig := ⟨[(true, [(.int .i64), (.int .i64)]), (true, [(.int .i64), (.int .i64)]), (true, [(.int .i64), (.int .i64)])], [(false, [(.int .i64)])], [], none⟩
noncomputable def c47 : Code := Try.f47.body.getD .skip
theorem b47 : Try.f47.body = some c47 := body_some (by kernel_rfl)
theorem n47 : (Try.f47.name == "runtime.NumGoroutine") = false := by kernel_rfl
def sg47 : List (FuncId × Sig) := []
def lt47 : List (Nat × LoopSig) := []
theorem k47 : (Code.loops c47).length = 0 := by kernel_rfl
def vt47 : VT :=
  (.ret (.cons (.bin (.add .i64) (.bin (.mul .i64) (.bin (.sub .i64) (.var 2) (.var 0)) (.bin (.sub .i64) (.var 4) (.var 0))) (.bin (.mul .i64) (.bin (.sub .i64) (.var 3) (.var 1)) (.bin (.sub .i64) (.var 5) (.var 1)))) .nil))
theorem e47 : (fnVT Try.prog (sgOf sg47) (ltOf lt47) S47 Try.f47 c47).slim (S47.ps.map fun p => p.2.length).sum [] = vt47 := by kernel_rfl
def T47 : FuncId → List D → List D := tabOf []
def fn47 (ρ : List D) : List D := vt47.val T47 ρ
theorem m47 : Meets Try.prog 47 S47 (fun _ => True) fn47 := meets_easy (sgl := sg47) (Φ := T47) mixed ((fun _ h => nomatch h)) Try.func47 b47 n47 k47 e47 (by kernel_rfl)

/-! ### 48 -/
def S48 : Sig := ⟨[(true, [(.int .i64), (.int .i64)]), (true, [(.int .i64), (.int .i64)])], [(false, [(.int .i64)])], [], none⟩
noncomputable def c48 : Code := Try.f48.body.getD .skip
theorem b48 : Try.f48.body = some c48 := body_some (by kernel_rfl)
theorem n48 : (Try.f48.name == "runtime.NumGoroutine") = false := by kernel_rfl
def sg48 : List (FuncId × Sig) := []
def lt48 : List (Nat × LoopSig) := []
theorem k48 : (Code.loops c48).length = 0 := by kernel_rfl
def vt48 : VT :=
  (.ret (.cons (.bin (.add .i64) (.bin (.mul .i64) (.bin (.sub .i64) (.var 0) (.var 2)) (.bin (.sub .i64) (.var 0) (.var 2))) (.bin (.mul .i64) (.bin (.sub .i64) (.var 1) (.var 3)) (.bin (.sub .i64) (.var 1) (.var 3)))) .nil))
theorem e48 : (fnVT Try.prog (sgOf sg48) (ltOf lt48) S48 Try.f48 c48).slim (S48.ps.map fun p => p.2.length).sum [] = vt48 := by kernel_rfl
def T48 : FuncId → List D → List D := tabOf []
def fn48 (ρ : List D) : List D := vt48.val T48 ρ
theorem m48 : Meets Try.prog 48 S48 (fun _ => True) fn48 := meets_easy (sgl := sg48) (Φ := T48) mixed ((fun _ h => nomatch h)) Try.func48 b48 n48 k48 e48 (by kernel_rfl)

/-! ### 49 -/
def S49 : Sig := ⟨[(true, [(.int .i64), (.int .i64)]), (true, [(.int .i64), (.int .i64)]), (true, [(.int .i64), (.int .i64)])], [(false, [(.int .i64)])], [], none⟩
noncomputable def c49 : Code := Try.f49.body.getD .skip
theorem b49 : Try.f49.body = some c49 := body_some (by kernel_rfl)
theorem n49 : (Try.f49.name == "runtime.NumGoroutine") = false := by kernel_rfl
def sg49 : List (FuncId × Sig) := []
def lt49 : List (Nat × LoopSig) := []
theorem k49 : (Code.loops c49).length = 0 := by kernel_rfl
def vt49 : VT :=
  (.ite (.bin .lt (.bin (.sub .i64) (.bin (.mul .i64) (.bin (.sub .i64) (.var 2) (.var 0)) (.bin (.sub .i64) (.var 5) (.var 1))) (.bin (.mul .i64) (.bin (.sub .i64) (.var 3) (.var 1)) (.bin (.sub .i64) (.var 4) (.var 0)))) (.n 0))
   (.ret (.cons (.un (.neg .i64) (.bin (.sub .i64) (.bin (.mul .i64) (.bin (.sub .i64) (.var 2) (.var 0)) (.bin (.sub .i64) (.var 5) (.var 1))) (.bin (.mul .i64) (.bin (.sub .i64) (.var 3) (.var 1)) (.bin (.sub .i64) (.var 4) (.var 0))))) .nil))
   (.ret (.cons (.bin (.sub .i64) (.bin (.mul .i64) (.bin (.sub .i64) (.var 2) (.var 0)) (.bin (.sub .i64) (.var 5) (.var 1))) (.bin (.mul .i64) (.bin (.sub .i64) (.var 3) (.var 1)) (.bin (.sub .i64) (.var 4) (.var 0)))) .nil)))
theorem e49 : (fnVT Try.prog (sgOf sg49) (ltOf lt49) S49 Try.f49 c49).slim (S49.ps.map fun p => p.2.length).sum [] = vt49 := by kernel_rfl
def T49 : FuncId → List D → List D := tabOf []
def fn49 (ρ : List D) : List D := vt49.val T49 ρ
theorem m49 : Meets Try.prog 49 S49 (fun _ => True) fn49 := meets_easy (sgl := sg49) (Φ := T49) mixed ((fun _ h => nomatch h)) Try.func49 b49 n49 k49 e49 (by kernel_rfl)

/-! ### 60 -/
def S60 : Sig := ⟨[(false, [(.int .i64)]), (false, [(.int .i64)])], [(false, [(.int .i64)]), (false, [(.int .i64)])], [], none⟩
noncomputable def c60 : Code := Try.f60.body.getD .skip
theorem b60 : Try.f60.body = some c60 := body_some (by kernel_rfl)
theorem n60 : (Try.f60.name == "runtime.NumGoroutine") = false := by kernel_rfl
def sg60 : List (FuncId × Sig) := []
def lt60 : List (Nat × LoopSig) := []
theorem k60 : (Code.loops c60).length = 0 := by kernel_rfl
def vt60 : VT :=
  (.ret (.cons (.bin (.add .i64) (.bin (.add .i64) (.bin (.mul .i64) (.bin (.quo .i64) (.var 0) (.n 2147483648)) (.bin (.quo .i64) (.var 1) (.n 2147483648))) (.bin (.quo .i64) (.bin (.add .i64) (.bin (.mul .i64) (.bin (.quo .i64) (.var 0) (.n 2147483648)) (.bin (.rem .i64) (.var 1) (.n 2147483648))) (.bin (.mul .i64) (.bin (.rem .i64) (.var 0) (.n 2147483648)) (.bin (.quo .i64) (.var 1) (.n 2147483648)))) (.n 2147483648))) (.bin (.quo .i64) (.bin (.add .i64) (.bin (.mul .i64) (.bin (.rem .i64) (.bin (.add .i64) (.bin (.mul .i64) (.bin (.quo .i64) (.var 0) (.n 2147483648)) (.bin (.rem .i64) (.var 1) (.n 2147483648))) (.bin (.mul .i64) (.bin (.rem .i64) (.var 0) (.n 2147483648)) (.bin (.quo .i64) (.var 1) (.n 2147483648)))) (.n 2147483648)) (.n 2147483648)) (.bin (.mul .i64) (.bin (.rem .i64) (.var 0) (.n 2147483648)) (.bin (.rem .i64) (.var 1) (.n 2147483648)))) (.n 4611686018427387904))) (.cons (.bin (.rem .i64) (.bin (.add .i64) (.bin (.mul .i64) (.bin (.rem .i64) (.bin (.add .i64) (.bin (.mul .i64) (.bin (.quo .i64) (.var 0) (.n 2147483648)) (.bin (.rem .i64) (.var 1) (.n 2147483648))) (.bin (.mul .i64) (.bin (.rem .i64) (.var 0) (.n 2147483648)) (.bin (.quo .i64) (.var 1) (.n 2147483648)))) (.n 2147483648)) (.n 2147483648)) (.bin (.mul .i64) (.bin (.rem .i64) (.var 0) (.n 2147483648)) (.bin (.rem .i64) (.var 1) (.n 2147483648)))) (.n 4611686018427387904)) .nil)))
theorem e60 : (fnVT Try.prog (sgOf sg60) (ltOf lt60) S60 Try.f60 c60).slim (S60.ps.map fun p => p.2.length).sum [] = vt60 := by kernel_rfl
def T60 : FuncId → List D → List D := tabOf []
def fn60 (ρ : List D) : List D := vt60.val T60 ρ
theorem m60 : Meets Try.prog 60 S60 (fun _ => True) fn60 := meets_easy (sgl := sg60) (Φ := T60) mixed ((fun _ h => nomatch h)) Try.func60 b60 n60 k60 e60 (by kernel_rfl)

/-! ### 50 -/
def S50 : Sig := ⟨[(false, [(.int .i64)]), (false, [(.int .i64)]), (false, [(.int .i64)]), (false, [(.int .i64)])], [(false, [.bool])], [], none⟩
noncomputable def c50 : Code := Try.f50.body.getD .skip
theorem b50 : Try.f50.body = some c50 := body_some (by kernel_rfl)
theorem n50 : (Try.f50.name == "runtime.NumGoroutine") = false := by kernel_rfl
def sg50 : List (FuncId × Sig) := [(60, S60)]
def lt50 : List (Nat × LoopSig) := []
theorem k50 : (Code.loops c50).length = 0 := by kernel_rfl
def vt50 : VT :=
  (.need (.t true) (.pre 60 (.cons (.var 0) (.cons (.var 1) .nil)))
  (.lt (.app 60 (.cons (.var 0) (.cons (.var 1) .nil)) 0) 2
  (.need (.t true) (.pre 60 (.cons (.var 2) (.cons (.var 3) .nil)))
  (.lt (.app 60 (.cons (.var 2) (.cons (.var 3) .nil)) 0) 2
  (.ret (.cons (.ite (.bin .lt (.var 4) (.var 6)) (.t true) (.ite (.bin .eq (.var 4) (.var 6)) (.bin .le (.var 5) (.var 7)) (.t false))) .nil))))))
theorem e50 : (fnVT Try.prog (sgOf sg50) (ltOf lt50) S50 Try.f50 c50).slim (S50.ps.map fun p => p.2.length).sum [] = vt50 := by kernel_rfl
def T50 : FuncId → List D → List D := tabOf [(60, fn60)]
def fn50 (ρ : List D) : List D := vt50.val T50 ρ
theorem m50 : Meets Try.prog 50 S50 (fun _ => True) fn50 := meets_easy (sgl := sg50) (Φ := T50) mixed (List.forall_mem_cons.2 ⟨m60, (fun _ h => nomatch h)⟩) Try.func50 b50 n50 k50 e50 (by kernel_rfl)

/-! ### 29 -/
def S29 : Sig := ⟨[(true, [(.int .i64), (.int .i64)]), (true, [(.int .i64), (.int .i64)]), (true, [(.int .i64), (.int .i64)]), (false, [(.int .i64)])], [(false, [.bool])], [], none⟩
noncomputable def c29 : Code := Try.f29.body.getD .skip
theorem b29 : Try.f29.body = some c29 := body_some (by kernel_rfl)
theorem n29 : (Try.f29.name == "runtime.NumGoroutine") = false := by kernel_rfl
def sg29 : List (FuncId × Sig) := [(47, S47), (48, S48), (49, S49), (50, S50)]
def lt29 : List (Nat × LoopSig) := []
theorem k29 : (Code.loops c29).length = 0 := by kernel_rfl
def vt29 : VT :=
  (.need (.t true) (.pre 47 (.cons (.var 0) (.cons (.var 1) (.cons (.var 2) (.cons (.var 3) (.cons (.var 4) (.cons (.var 5) .nil)))))))
  (.lt (.app 47 (.cons (.var 0) (.cons (.var 1) (.cons (.var 2) (.cons (.var 3) (.cons (.var 4) (.cons (.var 5) .nil)))))) 0) 1
  (.ite (.bin .le (.var 7) (.n 0))
   (.need (.t true) (.pre 48 (.cons (.var 0) (.cons (.var 1) (.cons (.var 4) (.cons (.var 5) .nil)))))
   (.lt (.app 48 (.cons (.var 0) (.cons (.var 1) (.cons (.var 4) (.cons (.var 5) .nil)))) 0) 1
   (.ret (.cons (.bin .le (.var 8) (.bin (.mul .i64) (.var 6) (.var 6))) .nil))))
   (.need (.t true) (.pre 47 (.cons (.var 2) (.cons (.var 3) (.cons (.var 0) (.cons (.var 1) (.cons (.var 4) (.cons (.var 5) .nil)))))))
   (.lt (.app 47 (.cons (.var 2) (.cons (.var 3) (.cons (.var 0) (.cons (.var 1) (.cons (.var 4) (.cons (.var 5) .nil)))))) 0) 1
   (.ite (.bin .le (.var 8) (.n 0))
    (.need (.t true) (.pre 48 (.cons (.var 2) (.cons (.var 3) (.cons (.var 4) (.cons (.var 5) .nil)))))
    (.lt (.app 48 (.cons (.var 2) (.cons (.var 3) (.cons (.var 4) (.cons (.var 5) .nil)))) 0) 1
    (.ret (.cons (.bin .le (.var 9) (.bin (.mul .i64) (.var 6) (.var 6))) .nil))))
    (.need (.t true) (.pre 49 (.cons (.var 0) (.cons (.var 1) (.cons (.var 2) (.cons (.var 3) (.cons (.var 4) (.cons (.var 5) .nil)))))))
    (.lt (.app 49 (.cons (.var 0) (.cons (.var 1) (.cons (.var 2) (.cons (.var 3) (.cons (.var 4) (.cons (.var 5) .nil)))))) 0) 1
    (.need (.t true) (.pre 48 (.cons (.var 0) (.cons (.var 1) (.cons (.var 2) (.cons (.var 3) .nil)))))
    (.lt (.app 48 (.cons (.var 0) (.cons (.var 1) (.cons (.var 2) (.cons (.var 3) .nil)))) 0) 1
    (.need (.t true) (.pre 50 (.cons (.var 9) (.cons (.var 9) (.cons (.bin (.mul .i64) (.var 6) (.var 6)) (.cons (.var 10) .nil)))))
    (.lt (.app 50 (.cons (.var 9) (.cons (.var 9) (.cons (.bin (.mul .i64) (.var 6) (.var 6)) (.cons (.var 10) .nil)))) 0) 1
    (.ret (.cons (.var 11) .nil))))))))))))))
theorem e29 : (fnVT Try.prog (sgOf sg29) (ltOf lt29) S29 Try.f29 c29).slim (S29.ps.map fun p => p.2.length).sum [] = vt29 := by kernel_rfl
def T29 : FuncId → List D → List D := tabOf [(47, fn47), (48, fn48), (49, fn49), (50, fn50)]
def fn29 (ρ : List D) : List D := vt29.val T29 ρ
theorem m29 : Meets Try.prog 29 S29 (fun _ => True) fn29 := meets_easy (sgl := sg29) (Φ := T29) mixed (List.forall_mem_cons.2 ⟨m47, List.forall_mem_cons.2 ⟨m48, List.forall_mem_cons.2 ⟨m49, List.forall_mem_cons.2 ⟨m50, (fun _ h => nomatch h)⟩⟩⟩⟩) Try.func29 b29 n29 k29 e29 (by kernel_rfl)

/-! ### 10 -/
def S10 : Sig := ⟨[(false, [(.sl 24 [(.int .i64), (.int .i64)])]), (true, [(.int .i64), (.int .i64)]), (false, [(.int .i64)])], [(false, [.bool])], [], none⟩
noncomputable def c10 : Code := Try.f10.body.getD .skip
theorem b10 : Try.f10.body = some c10 := body_some (by kernel_rfl)
theorem n10 : (Try.f10.name == "runtime.NumGoroutine") = false := by kernel_rfl
def sg10 : List (FuncId × Sig) := [(21, S21), (27, S27), (28, S28), (29, S29)]
def L10_0 : LoopSig := ⟨11000, [],
   ⟨[(.c (.x (.sl 24 [(.int .i64), (.int .i64)]) (.var 0))), .any, (.c (.x (.int .i64) (.var 1))), .any, (.c (.ptr 0 0)), .any, (.c (.x .bool (.var 2))), (.c (.x (.int .i64) (.var 3))), .any, .any, .any, .any, .any, .any, .any, .any, .any, .any, .any, .any, .any, .any, .any, .any, .any, .any, .any, .any, .any, .any, .any, .any, .any, .any, .any, .any, .any, .any, .any, .any, .any, .any, .any, .any, .any, .any, .any, .any, .any, .any, .any],
    [some ⟨(.t true), (.box 24 [(.x (.int .i64) (.var 4)), (.x (.int .i64) (.var 5))] false)⟩]⟩,
   6, [2, 3], [33, 34, 35, 36, 39, 40, 41, 42, 43, 44, 45, 46, 47, 48, 49, 50, 6, 37, 38, 7], [.ret, (.exit 0)], []⟩
def lt10 : List (Nat × LoopSig) := [(6, L10_0)]
theorem k10 : (Code.loops c10).length = 1 := by kernel_rfl
noncomputable def lb10_0 : Code := (Code.loops c10).getD 0 .skip
def rt10_0 : VT :=
  (.ite (.bin .lt (.var 3) (.un .len (.var 0)))
   (.need (.t true) (.c (.bin .le (.n 0) (.bin (.sub .i64) (.var 3) (.n 1))))
   (.need (.t true) (.c (.bin .lt (.bin (.sub .i64) (.var 3) (.n 1)) (.un .len (.var 0))))
   (.need (.t true) (.c (.bin .le (.n 0) (.var 3)))
   (.need (.t true) (.pre 29 (.cons (.sel 0 (.var 0) (.bin (.sub .i64) (.var 3) (.n 1))) (.cons (.sel 1 (.var 0) (.bin (.sub .i64) (.var 3) (.n 1))) (.cons (.sel 0 (.var 0) (.var 3)) (.cons (.sel 1 (.var 0) (.var 3)) (.cons (.var 4) (.cons (.var 5) (.cons (.var 1) .nil))))))))
   (.lt (.app 29 (.cons (.sel 0 (.var 0) (.bin (.sub .i64) (.var 3) (.n 1))) (.cons (.sel 1 (.var 0) (.bin (.sub .i64) (.var 3) (.n 1))) (.cons (.sel 0 (.var 0) (.var 3)) (.cons (.sel 1 (.var 0) (.var 3)) (.cons (.var 4) (.cons (.var 5) (.cons (.var 1) .nil))))))) 0) 1
   (.ite (.var 6)
    (.ret (.cons (.n 0) (.cons (.t true) (.cons (.var 3) .nil))))
    (.ret (.cons (.n (-1)) (.cons (.var 2) (.cons (.bin (.add .i64) (.var 3) (.n 1)) .nil))))))))))
   (.ret (.cons (.n 1) (.cons (.var 2) (.cons (.var 3) .nil)))))
theorem le10_0 : (loopVT Try.prog (sgOf sg10) (ltOf lt10) L10_0 lb10_0).slim L10_0.nv [] = rt10_0 := by kernel_rfl
theorem lf10_0 : (firstRegion lb10_0).bind (ltOf lt10) = some L10_0 := by kernel_rfl
theorem lk10_0 : (Code.loops lb10_0).length = 0 := by kernel_rfl
def vt10 : VT :=
  (.need (.t true) (.pre 21 (.cons (.var 0) .nil))
  (.lt (.app 21 (.cons (.var 0) .nil) 0) 1
  (.need (.var 4) (.pre 27 (.cons (.var 1) (.cons (.var 2) .nil)))
  (.lt (.app 27 (.cons (.var 1) (.cons (.var 2) .nil)) 0) 1
  (.need (.un .not (.ite (.un .not (.var 4)) (.t true) (.un .not (.var 5)))) (.pre 28 (.cons (.var 3) .nil))
  (.lt (.app 28 (.cons (.var 3) .nil) 0) 1
  (.ite (.ite (.ite (.un .not (.var 4)) (.t true) (.un .not (.var 5))) (.t true) (.un .not (.var 6)))
   (.ret (.cons (.t false) .nil))
   (.ite (.bin .eq (.un .len (.var 0)) (.n 1))
    (.need (.t true) (.c (.bin .lt (.n 0) (.un .len (.var 0))))
    (.need (.t true) (.pre 29 (.cons (.sel 0 (.var 0) (.n 0)) (.cons (.sel 1 (.var 0) (.n 0)) (.cons (.sel 0 (.var 0) (.n 0)) (.cons (.sel 1 (.var 0) (.n 0)) (.cons (.var 1) (.cons (.var 2) (.cons (.var 3) .nil))))))))
    (.lt (.app 29 (.cons (.sel 0 (.var 0) (.n 0)) (.cons (.sel 1 (.var 0) (.n 0)) (.cons (.sel 0 (.var 0) (.n 0)) (.cons (.sel 1 (.var 0) (.n 0)) (.cons (.var 1) (.cons (.var 2) (.cons (.var 3) .nil))))))) 0) 1
    (.ret (.cons (.var 7) .nil)))))
    (.need (.t true) (.pre 11000 (.cons (.var 0) (.cons (.var 3) (.cons (.t false) (.cons (.n 1) (.cons (.var 1) (.cons (.var 2) .nil)))))))
    (.lt (.app 11000 (.cons (.var 0) (.cons (.var 3) (.cons (.t false) (.cons (.n 1) (.cons (.var 1) (.cons (.var 2) .nil)))))) 0) 3
    (.ite (.bin .eq (.var 7) (.n 0))
     (.ret (.cons (.var 8) .nil))
     (.ret (.cons (.t false) .nil)))))))))))))
theorem e10 : (fnVT Try.prog (sgOf sg10) (ltOf lt10) S10 Try.f10 c10).slim (S10.ps.map fun p => p.2.length).sum [] = vt10 := by kernel_rfl

/-! ### 3 -/
def S3 : Sig := ⟨[(false, [(.sl 24 [(.int .i64), (.int .i64)])]), (true, [(.int .i64), (.int .i64)]), (false, [(.int .i64)])], [(false, [.bool])], [], none⟩
noncomputable def c3 : Code := Try.f3.body.getD .skip
theorem b3 : Try.f3.body = some c3 := body_some (by kernel_rfl)
theorem n3 : (Try.f3.name == "runtime.NumGoroutine") = false := by kernel_rfl
def sg3 : List (FuncId × Sig) := [(8, S8), (9, S9), (10, S10)]
def lt3 : List (Nat × LoopSig) := []
theorem k3 : (Code.loops c3).length = 0 := by kernel_rfl
def vt3 : VT :=
  (.ite (.bin .lt (.n 600) (.un .len (.var 0)))
   (.need (.t true) (.pre 8 .nil)
   (.lt (.app 8 .nil 0) 1
   (.ret (.cons (.var 4) .nil))))
   (.need (.t true) (.pre 9 (.cons (.var 0) (.cons (.var 1) (.cons (.var 2) (.cons (.var 3) .nil)))))
   (.lt (.app 9 (.cons (.var 0) (.cons (.var 1) (.cons (.var 2) (.cons (.var 3) .nil)))) 0) 1
   (.need (.t true) (.pre 10 (.cons (.var 0) (.cons (.var 1) (.cons (.var 2) (.cons (.var 3) .nil)))))
   (.lt (.app 10 (.cons (.var 0) (.cons (.var 1) (.cons (.var 2) (.cons (.var 3) .nil)))) 0) 1
   (.need (.bin .beq (.var 4) (.var 5)) (.pre 8 .nil)
   (.lt (.app 8 .nil 0) 1
   (.ret (.cons (.ite (.bin .beq (.var 4) (.var 5)) (.var 6) (.t false)) .nil)))))))))
theorem e3 : (fnVT Try.prog (sgOf sg3) (ltOf lt3) S3 Try.f3 c3).slim (S3.ps.map fun p => p.2.length).sum [] = vt3 := by kernel_rfl

/-! ### 11 -/
def S11 : Sig := ⟨[(true, [(.int .i64), (.int .i64), (.int .i64), (.int .i64), (.sl 46 [(.int .i64), (.int .i64), (.int .i64), (.int .i64), (.int .i64), (.int .i64), (.sl 24 [(.int .i64), (.int .i64)]), .str])])], [(false, [.bool])], [], none⟩
noncomputable def c11 : Code := Try.f11.body.getD .skip
theorem b11 : Try.f11.body = some c11 := body_some (by kernel_rfl)
theorem n11 : (Try.f11.name == "runtime.NumGoroutine") = false := by kernel_rfl
def sg11 : List (FuncId × Sig) := []
def L11_0 : LoopSig := ⟨11100, [],
   ⟨[.any, (.c (.ptr 0 0)), (.c (.x .bool (.var 0))), (.c (.x (.int .i64) (.var 1))), .any, .any, .any, .any, .any, .any, .any, .any, .any, .any, .any, .any, .any, .any, .any, .any, .any, .any, .any, .any, .any, .any, .any, .any, .any, .any, .any, .any, .any],
    [some ⟨(.t true), (.box 31 [(.x (.int .i64) (.var 2)), (.x (.int .i64) (.var 3)), (.x (.int .i64) (.var 4)), (.x (.int .i64) (.var 5)), (.x (.sl 46 [(.int .i64), (.int .i64), (.int .i64), (.int .i64), (.int .i64), (.int .i64), (.sl 24 [(.int .i64), (.int .i64)]), .str]) (.var 6))] false)⟩]⟩,
   7, [0, 1], [8, 9, 10, 11, 12, 15, 16, 17, 18, 19, 20, 21, 22, 23, 24, 25, 26, 27, 28, 29, 30, 31, 32, 2, 13, 14, 3], [.ret, (.exit 0)], []⟩
def lt11 : List (Nat × LoopSig) := [(4, L11_0)]
theorem k11 : (Code.loops c11).length = 1 := by kernel_rfl
noncomputable def lb11_0 : Code := (Code.loops c11).getD 0 .skip
def rt11_0 : VT :=
  (.ite (.bin .lt (.var 1) (.un .len (.var 6)))
   (.need (.t true) (.c (.bin .le (.n 0) (.var 1)))
   (.ite (.ite (.bin .lt (.n 20) (.un .len (.sel 6 (.var 6) (.var 1)))) (.t true) (.bin .lt (.n 50) (.un .slen (.sel 7 (.var 6) (.var 1)))))
    (.ret (.cons (.n 0) (.cons (.t false) (.cons (.var 1) .nil))))
    (.ret (.cons (.n (-1)) (.cons (.var 0) (.cons (.bin (.add .i64) (.var 1) (.n 1)) .nil))))))
   (.ret (.cons (.n 1) (.cons (.var 0) (.cons (.var 1) .nil)))))
theorem le11_0 : (loopVT Try.prog (sgOf sg11) (ltOf lt11) L11_0 lb11_0).slim L11_0.nv [] = rt11_0 := by kernel_rfl
theorem lf11_0 : (firstRegion lb11_0).bind (ltOf lt11) = some L11_0 := by kernel_rfl
theorem lk11_0 : (Code.loops lb11_0).length = 0 := by kernel_rfl
def vt11 : VT :=
  (.ite (.bin .lt (.n 40) (.un .len (.var 4)))
   (.ret (.cons (.t false) .nil))
   (.need (.t true) (.pre 11100 (.cons (.t false) (.cons (.n 0) (.cons (.var 0) (.cons (.var 1) (.cons (.var 2) (.cons (.var 3) (.cons (.var 4) .nil))))))))
   (.lt (.app 11100 (.cons (.t false) (.cons (.n 0) (.cons (.var 0) (.cons (.var 1) (.cons (.var 2) (.cons (.var 3) (.cons (.var 4) .nil))))))) 0) 3
   (.ite (.bin .eq (.var 5) (.n 0))
    (.ret (.cons (.var 6) .nil))
    (.ret (.cons (.t true) .nil))))))
theorem e11 : (fnVT Try.prog (sgOf sg11) (ltOf lt11) S11 Try.f11 c11).slim (S11.ps.map fun p => p.2.length).sum [] = vt11 := by kernel_rfl

/-! ### 55 -/
def S55 : Sig := ⟨[(true, [(.int .i64), (.int .i64), (.int .i64), (.int .i64)])], [(false, [.bool])], [], none⟩
noncomputable def c55 : Code := Try.f55.body.getD .skip
theorem b55 : Try.f55.body = some c55 := body_some (by kernel_rfl)
theorem n55 : (Try.f55.name == "runtime.NumGoroutine") = false := by kernel_rfl
def sg55 : List (FuncId × Sig) := []
def lt55 : List (Nat × LoopSig) := []
theorem k55 : (Code.loops c55).length = 0 := by kernel_rfl
def vt55 : VT :=
  (.ret (.cons (.ite (.ite (.ite (.ite (.ite (.bin .le (.n (-268435456)) (.var 0)) (.bin .le (.n (-268435456)) (.var 1)) (.t false)) (.bin .le (.var 2) (.n 268435456)) (.t false)) (.bin .le (.var 3) (.n 268435456)) (.t false)) (.bin .le (.var 0) (.var 2)) (.t false)) (.bin .le (.var 1) (.var 3)) (.t false)) .nil))
theorem e55 : (fnVT Try.prog (sgOf sg55) (ltOf lt55) S55 Try.f55 c55).slim (S55.ps.map fun p => p.2.length).sum [] = vt55 := by kernel_rfl
def T55 : FuncId → List D → List D := tabOf []
def fn55 (ρ : List D) : List D := vt55.val T55 ρ
theorem m55 : Meets Try.prog 55 S55 (fun _ => True) fn55 := meets_easy (sgl := sg55) (Φ := T55) mixed ((fun _ h => nomatch h)) Try.func55 b55 n55 k55 e55 (by kernel_rfl)

/-! ### 33 -/
def S33 : Sig := ⟨[(true, [(.int .i64), (.int .i64), (.int .i64), (.int .i64), (.int .i64), (.int .i64), (.sl 24 [(.int .i64), (.int .i64)]), .str])], [(false, [(.int .i64)])], [], none⟩
noncomputable def c33 : Code := Try.f33.body.getD .skip
theorem b33 : Try.f33.body = some c33 := body_some (by kernel_rfl)
theorem n33 : (Try.f33.name == "runtime.NumGoroutine") = false := by kernel_rfl
def sg33 : List (FuncId × Sig) := [(21, S21), (55, S55)]
def L33_0 : LoopSig := ⟨13300, [],
   ⟨[.any, (.c (.ptr 0 0)), (.c (.x (.int .i64) (.var 0))), (.c (.x (.int .i64) (.var 1))), .any, .any, .any, .any, .any, .any, .any, .any, .any, .any, .any, .any, .any, .any, .any, .any, .any, .any, .any, .any, .any, .any, .any, .any, .any, .any, .any, .any, .any, .any, .any, .any, .any, .any, .any, .any, .any, .any, .any, .any, .any, .any, .any, .any, .any, .any, .any, .any, .any, .any, .any, .any, .any, .any, .any, .any, .any, .any, .any, .any, .any, .any, .any, .any, .any, .any, .any, .any, .any, .any, .any, .any, .any, .any, .any, .any, .any, .any, .any, .any, .any, .any, .any, .any, .any, .any],
    [some ⟨(.t true), (.box 46 [(.x (.int .i64) (.var 2)), (.x (.int .i64) (.var 3)), (.x (.int .i64) (.var 4)), (.x (.int .i64) (.var 5)), (.x (.int .i64) (.var 6)), (.x (.int .i64) (.var 7)), (.x (.sl 24 [(.int .i64), (.int .i64)]) (.var 8)), (.x .str (.var 9))] false)⟩]⟩,
   10, [0, 1], [67, 68, 69, 70, 71, 74, 75, 76, 77, 78, 79, 80, 81, 82, 83, 84, 85, 2, 72, 73, 3], [.ret, (.exit 0)], []⟩
def lt33 : List (Nat × LoopSig) := [(8, L33_0)]
theorem k33 : (Code.loops c33).length = 1 := by kernel_rfl
noncomputable def lb33_0 : Code := (Code.loops c33).getD 0 .skip
def rt33_0 : VT :=
  (.ite (.bin .lt (.var 1) (.un .slen (.var 9)))
   (.need (.t true) (.c (.bin .le (.n 0) (.var 1)))
   (.ite (.ite (.bin .lt (.bin .sidx (.var 9) (.var 1)) (.n 32)) (.t true) (.bin .lt (.n 126) (.bin .sidx (.var 9) (.var 1))))
    (.ret (.cons (.n 0) (.cons (.n 7) (.cons (.var 1) .nil))))
    (.ret (.cons (.n (-1)) (.cons (.var 0) (.cons (.bin (.add .i64) (.var 1) (.n 1)) .nil))))))
   (.ret (.cons (.n 1) (.cons (.var 0) (.cons (.var 1) .nil)))))
theorem le33_0 : (loopVT Try.prog (sgOf sg33) (ltOf lt33) L33_0 lb33_0).slim L33_0.nv [] = rt33_0 := by kernel_rfl
theorem lf33_0 : (firstRegion lb33_0).bind (ltOf lt33) = some L33_0 := by kernel_rfl
theorem lk33_0 : (Code.loops lb33_0).length = 0 := by kernel_rfl
def vt33 : VT :=
  (.ite (.ite (.ite (.bin .lt (.var 0) (.n 1)) (.t true) (.bin .lt (.n 4) (.var 0))) (.t true) (.bin .lt (.var 1) (.n 0)))
   (.ret (.cons (.n 1) .nil))
   (.ite (.ite (.ite (.ite (.bin .eq (.var 0) (.n 3)) (.un .not (.ite (.bin .eq (.var 2) (.n 0)) (.ite (.bin .eq (.var 3) (.n 0)) (.ite (.bin .eq (.var 4) (.n 0)) (.bin .eq (.var 5) (.n 0)) (.t false)) (.t false)) (.t false))) (.t false)) (.t true) (.ite (.un .not (.bin .eq (.var 0) (.n 3))) (.bin .lt (.n 0) (.un .len (.var 6))) (.t false))) (.t true) (.ite (.un .not (.bin .eq (.var 0) (.n 4))) (.un .not (.bin .seq (.var 7) (.str ⟨#[]⟩))) (.t false)))
    (.ret (.cons (.n 1) .nil))
    (.need (.bin .eq (.var 0) (.n 3)) (.pre 21 (.cons (.var 6) .nil))
    (.lt (.app 21 (.cons (.var 6) .nil) 0) 1
    (.need (.ite (.un .not (.ite (.bin .eq (.var 0) (.n 3)) (.un .not (.var 8)) (.t false))) (.un .not (.bin .eq (.var 0) (.n 3))) (.t false)) (.pre 55 (.cons (.var 2) (.cons (.var 3) (.cons (.var 4) (.cons (.var 5) .nil)))))
    (.lt (.app 55 (.cons (.var 2) (.cons (.var 3) (.cons (.var 4) (.cons (.var 5) .nil)))) 0) 1
    (.ite (.ite (.ite (.bin .eq (.var 0) (.n 3)) (.un .not (.var 8)) (.t false)) (.t true) (.ite (.un .not (.bin .eq (.var 0) (.n 3))) (.un .not (.var 9)) (.t false)))
     (.ret (.cons (.n 3) .nil))
     (.need (.t true) (.pre 13300 (.cons (.n 0) (.cons (.n 0) (.cons (.var 0) (.cons (.var 1) (.cons (.var 2) (.cons (.var 3) (.cons (.var 4) (.cons (.var 5) (.cons (.var 6) (.cons (.var 7) .nil)))))))))))
     (.lt (.app 13300 (.cons (.n 0) (.cons (.n 0) (.cons (.var 0) (.cons (.var 1) (.cons (.var 2) (.cons (.var 3) (.cons (.var 4) (.cons (.var 5) (.cons (.var 6) (.cons (.var 7) .nil)))))))))) 0) 3
     (.ite (.bin .eq (.var 10) (.n 0))
      (.ret (.cons (.var 11) .nil))
      (.ite (.bin .lt (.n 32) (.un .slen (.var 7)))
       (.ret (.cons (.n 7) .nil))
       (.ret (.cons (.n 0) .nil)))))))))))))
theorem e33 : (fnVT Try.prog (sgOf sg33) (ltOf lt33) S33 Try.f33 c33).slim (S33.ps.map fun p => p.2.length).sum [] = vt33 := by kernel_rfl

/-! ### 39 -/
def S39 : Sig := ⟨[(false, [(.sl 24 [(.int .i64), (.int .i64)])])], [(true, [(.int .i64), (.int .i64), (.int .i64), (.int .i64)])], [], none⟩
noncomputable def c39 : Code := Try.f39.body.getD .skip
theorem b39 : Try.f39.body = some c39 := body_some (by kernel_rfl)
theorem n39 : (Try.f39.name == "runtime.NumGoroutine") = false := by kernel_rfl
def sg39 : List (FuncId × Sig) := [(21, S21)]
def L39_0 : LoopSig := ⟨13900, [],
   ⟨[(.c (.x (.sl 24 [(.int .i64), (.int .i64)]) (.var 0))), .any, .any, (.c (.ptr 1 0)), (.c (.x (.int .i64) (.var 1))), .any, .any, .any, .any, .any, .any, .any, .any, .any, .any, .any, .any, .any, .any, .any, .any, .any, .any, .any, .any, .any, .any, .any, .any, .any, .any, .any, .any, .any, .any, .any, .any, .any, .any, .any, .any, .any, .any, .any, .any, .any, .any, .any, .any, .any, .any, .any, .any, .any, .any, .any, .any, .any, .any, .any, .any, .any, .any, .any, .any, .any],
    [none, some ⟨(.t true), (.box 28 [(.x (.int .i64) (.var 2)), (.x (.int .i64) (.var 3)), (.x (.int .i64) (.var 4)), (.x (.int .i64) (.var 5))] false)⟩]⟩,
   6, [1, 2, 3, 4, 5], [26, 27, 28, 29, 32, 33, 34, 35, 36, 37, 38, 39, 40, 41, 42, 43, 44, 45, 46, 47, 48, 49, 50, 51, 52, 53, 54, 55, 56, 57, 58, 59, 60, 61, 62, 63, 64, 30, 31, 4], [(.exit 0)], []⟩
def lt39 : List (Nat × LoopSig) := [(5, L39_0)]
theorem k39 : (Code.loops c39).length = 1 := by kernel_rfl
noncomputable def lb39_0 : Code := (Code.loops c39).getD 0 .skip
def rt39_0 : VT :=
  (.ite (.bin .lt (.var 1) (.un .len (.var 0)))
   (.need (.t true) (.c (.bin .le (.n 0) (.var 1)))
   (.ret (.cons (.n (-1)) (.cons (.bin (.add .i64) (.var 1) (.n 1)) (.cons (.bin .min (.var 2) (.sel 0 (.var 0) (.var 1))) (.cons (.bin .min (.var 3) (.sel 1 (.var 0) (.var 1))) (.cons (.bin .max (.var 4) (.sel 0 (.var 0) (.var 1))) (.cons (.bin .max (.var 5) (.sel 1 (.var 0) (.var 1))) .nil))))))))
   (.ret (.cons (.n 0) (.cons (.var 1) (.cons (.var 2) (.cons (.var 3) (.cons (.var 4) (.cons (.var 5) .nil))))))))
theorem le39_0 : (loopVT Try.prog (sgOf sg39) (ltOf lt39) L39_0 lb39_0).slim L39_0.nv [] = rt39_0 := by kernel_rfl
theorem lf39_0 : (firstRegion lb39_0).bind (ltOf lt39) = some L39_0 := by kernel_rfl
theorem lk39_0 : (Code.loops lb39_0).length = 0 := by kernel_rfl
def vt39 : VT :=
  (.need (.t true) (.pre 21 (.cons (.var 0) .nil))
  (.lt (.app 21 (.cons (.var 0) .nil) 0) 1
  (.ite (.un .not (.var 1))
   (.ret (.cons (.n 0) (.cons (.n 0) (.cons (.n 0) (.cons (.n 0) .nil)))))
   (.need (.t true) (.c (.bin .lt (.n 0) (.un .len (.var 0))))
   (.need (.t true) (.pre 13900 (.cons (.var 0) (.cons (.n 1) (.cons (.sel 0 (.var 0) (.n 0)) (.cons (.sel 1 (.var 0) (.n 0)) (.cons (.sel 0 (.var 0) (.n 0)) (.cons (.sel 1 (.var 0) (.n 0)) .nil)))))))
   (.lt (.app 13900 (.cons (.var 0) (.cons (.n 1) (.cons (.sel 0 (.var 0) (.n 0)) (.cons (.sel 1 (.var 0) (.n 0)) (.cons (.sel 0 (.var 0) (.n 0)) (.cons (.sel 1 (.var 0) (.n 0)) .nil)))))) 0) 6
   (.ret (.cons (.var 4) (.cons (.var 5) (.cons (.var 6) (.cons (.var 7) .nil)))))))))))
theorem e39 : (fnVT Try.prog (sgOf sg39) (ltOf lt39) S39 Try.f39 c39).slim (S39.ps.map fun p => p.2.length).sum [] = vt39 := by kernel_rfl

/-! ### 34 -/
def S34 : Sig := ⟨[(false, [(.sl 46 [(.int .i64), (.int .i64), (.int .i64), (.int .i64), (.int .i64), (.int .i64), (.sl 24 [(.int .i64), (.int .i64)]), .str])])], [(true, [(.int .i64), (.int .i64), (.int .i64), (.int .i64)])], [], none⟩
noncomputable def c34 : Code := Try.f34.body.getD .skip
theorem b34 : Try.f34.body = some c34 := body_some (by kernel_rfl)
theorem n34 : (Try.f34.name == "runtime.NumGoroutine") = false := by kernel_rfl
def sg34 : List (FuncId × Sig) := [(55, S55), (39, S39), (21, S21)]
def L34_0 : LoopSig := ⟨13400, [],
   ⟨[(.c (.x (.sl 46 [(.int .i64), (.int .i64), (.int .i64), (.int .i64), (.int .i64), (.int .i64), (.sl 24 [(.int .i64), (.int .i64)]), .str]) (.var 0))), .any, .any, (.c (.ptr 1 0)), (.c (.x .bool (.var 1))), (.c (.x (.int .i64) (.var 2))), .any, .any, .any, .any, .any, .any, .any, .any, .any, .any, .any, .any, .any, .any, .any, .any, .any, .any, .any, .any, .any, .any, .any, .any, .any, .any, .any, .any, .any, .any, .any, .any, .any, .any, .any, .any, .any, .any, .any, .any, .any, .any, .any, .any, .any, .any, .any, .any, .any, .any, .any, .any, .any, .any, .any, .any, .any, .any, .any, .any, .any, .any, .any, .any, .any, .any],
    [none, some ⟨(.t true), (.box 28 [(.x (.int .i64) (.var 3)), (.x (.int .i64) (.var 4)), (.x (.int .i64) (.var 5)), (.x (.int .i64) (.var 6))] false)⟩]⟩,
   7, [1, 2, 3, 4, 5, 6], [10, 11, 12, 13, 16, 17, 18, 19, 6, 20, 21, 7, 22, 23, 24, 25, 26, 27, 28, 29, 30, 31, 32, 33, 8, 34, 35, 36, 37, 38, 39, 40, 41, 42, 43, 44, 45, 46, 47, 48, 4, 49, 50, 51, 52, 53, 54, 55, 56, 57, 58, 59, 60, 61, 62, 63, 64, 65, 66, 67, 68, 69, 70, 14, 15, 5], [(.exit 0)], []⟩
def lt34 : List (Nat × LoopSig) := [(4, L34_0)]
theorem k34 : (Code.loops c34).length = 1 := by kernel_rfl
noncomputable def lb34_0 : Code := (Code.loops c34).getD 0 .skip
def rt34_0 : VT :=
  (.ite (.bin .lt (.var 2) (.un .len (.var 0)))
   (.need (.t true) (.c (.bin .le (.n 0) (.var 2)))
   (.need (.ite (.bin .le (.n 1) (.sel 0 (.var 0) (.var 2))) (.bin .le (.sel 0 (.var 0) (.var 2)) (.n 4)) (.t false)) (.pre 55 (.cons (.sel 2 (.var 0) (.var 2)) (.cons (.sel 3 (.var 0) (.var 2)) (.cons (.sel 4 (.var 0) (.var 2)) (.cons (.sel 5 (.var 0) (.var 2)) .nil)))))
   (.lt (.app 55 (.cons (.sel 2 (.var 0) (.var 2)) (.cons (.sel 3 (.var 0) (.var 2)) (.cons (.sel 4 (.var 0) (.var 2)) (.cons (.sel 5 (.var 0) (.var 2)) .nil)))) 0) 1
   (.ite (.bin .eq (.sel 0 (.var 0) (.var 2)) (.n 3))
    (.need (.t true) (.pre 39 (.cons (.sel 6 (.var 0) (.var 2)) .nil))
    (.lt (.app 39 (.cons (.sel 6 (.var 0) (.var 2)) .nil) 0) 4
    (.need (.t true) (.pre 21 (.cons (.sel 6 (.var 0) (.var 2)) .nil))
    (.lt (.app 21 (.cons (.sel 6 (.var 0) (.var 2)) .nil) 0) 1
    (.ite (.ite (.var 12) (.un .not (.var 1)) (.t false))
     (.ret (.cons (.n (-1)) (.cons (.t true) (.cons (.bin (.add .i64) (.var 2) (.n 1)) (.cons (.var 8) (.cons (.var 9) (.cons (.var 10) (.cons (.var 11) .nil))))))))
     (.ite (.var 12)
      (.ret (.cons (.n (-1)) (.cons (.var 1) (.cons (.bin (.add .i64) (.var 2) (.n 1)) (.cons (.bin .min (.var 3) (.var 8)) (.cons (.bin .min (.var 4) (.var 9)) (.cons (.bin .max (.var 5) (.var 10)) (.cons (.bin .max (.var 6) (.var 11)) .nil))))))))
      (.ret (.cons (.n (-1)) (.cons (.var 1) (.cons (.bin (.add .i64) (.var 2) (.n 1)) (.cons (.var 3) (.cons (.var 4) (.cons (.var 5) (.cons (.var 6) .nil))))))))))))))
    (.ite (.ite (.ite (.ite (.bin .le (.n 1) (.sel 0 (.var 0) (.var 2))) (.bin .le (.sel 0 (.var 0) (.var 2)) (.n 4)) (.t false)) (.var 7) (.t false)) (.un .not (.var 1)) (.t false))
     (.ret (.cons (.n (-1)) (.cons (.t true) (.cons (.bin (.add .i64) (.var 2) (.n 1)) (.cons (.sel 2 (.var 0) (.var 2)) (.cons (.sel 3 (.var 0) (.var 2)) (.cons (.sel 4 (.var 0) (.var 2)) (.cons (.sel 5 (.var 0) (.var 2)) .nil))))))))
     (.ite (.ite (.ite (.bin .le (.n 1) (.sel 0 (.var 0) (.var 2))) (.bin .le (.sel 0 (.var 0) (.var 2)) (.n 4)) (.t false)) (.var 7) (.t false))
      (.ret (.cons (.n (-1)) (.cons (.var 1) (.cons (.bin (.add .i64) (.var 2) (.n 1)) (.cons (.bin .min (.var 3) (.sel 2 (.var 0) (.var 2))) (.cons (.bin .min (.var 4) (.sel 3 (.var 0) (.var 2))) (.cons (.bin .max (.var 5) (.sel 4 (.var 0) (.var 2))) (.cons (.bin .max (.var 6) (.sel 5 (.var 0) (.var 2))) .nil))))))))
      (.ret (.cons (.n (-1)) (.cons (.var 1) (.cons (.bin (.add .i64) (.var 2) (.n 1)) (.cons (.var 3) (.cons (.var 4) (.cons (.var 5) (.cons (.var 6) .nil))))))))))))))
   (.ret (.cons (.n 0) (.cons (.var 1) (.cons (.var 2) (.cons (.var 3) (.cons (.var 4) (.cons (.var 5) (.cons (.var 6) .nil)))))))))
theorem le34_0 : (loopVT Try.prog (sgOf sg34) (ltOf lt34) L34_0 lb34_0).slim L34_0.nv [] = rt34_0 := by kernel_rfl
theorem lf34_0 : (firstRegion lb34_0).bind (ltOf lt34) = some L34_0 := by kernel_rfl
theorem lk34_0 : (Code.loops lb34_0).length = 0 := by kernel_rfl
def vt34 : VT :=
  (.need (.t true) (.pre 13400 (.cons (.var 0) (.cons (.t false) (.cons (.n 0) (.cons (.n 0) (.cons (.n 0) (.cons (.n 0) (.cons (.n 0) .nil))))))))
  (.lt (.app 13400 (.cons (.var 0) (.cons (.t false) (.cons (.n 0) (.cons (.n 0) (.cons (.n 0) (.cons (.n 0) (.cons (.n 0) .nil))))))) 0) 7
  (.ret (.cons (.var 4) (.cons (.var 5) (.cons (.var 6) (.cons (.var 7) .nil)))))))
theorem e34 : (fnVT Try.prog (sgOf sg34) (ltOf lt34) S34 Try.f34 c34).slim (S34.ps.map fun p => p.2.length).sum [] = vt34 := by kernel_rfl

/-! ### 17 -/
def S17 : Sig := ⟨[(true, [(.int .i64), (.int .i64), (.int .i64), (.int .i64), (.sl 46 [(.int .i64), (.int .i64), (.int .i64), (.int .i64), (.int .i64), (.int .i64), (.sl 24 [(.int .i64), (.int .i64)]), .str])])], [(false, [(.int .i64)])], [], none⟩
noncomputable def c17 : Code := Try.f17.body.getD .skip
theorem b17 : Try.f17.body = some c17 := body_some (by kernel_rfl)
theorem n17 : (Try.f17.name == "runtime.NumGoroutine") = false := by kernel_rfl
def sg17 : List (FuncId × Sig) := [(33, S33), (34, S34)]
def L17_0 : LoopSig := ⟨11700, [],
   ⟨[.any, (.c (.ptr 0 0)), (.c (.x (.int .i64) (.var 0))), (.c (.x (.int .i64) (.var 1))), .any, .any, .any, .any, .any, .any, .any, .any, .any, .any, .any, .any, .any, .any, .any, .any, .any, .any, .any, .any, .any, .any, .any, .any, .any, .any, .any],
    [some ⟨(.t true), (.box 31 [(.x (.int .i64) (.var 2)), (.x (.int .i64) (.var 3)), (.x (.int .i64) (.var 4)), (.x (.int .i64) (.var 5)), (.x (.sl 46 [(.int .i64), (.int .i64), (.int .i64), (.int .i64), (.int .i64), (.int .i64), (.sl 24 [(.int .i64), (.int .i64)]), .str]) (.var 6))] false)⟩]⟩,
   7, [0, 1], [9, 10, 11, 12, 13, 16, 17, 18, 19, 20, 21, 4, 22, 23, 24, 2, 14, 15, 3], [.ret, (.exit 0)], []⟩
def lt17 : List (Nat × LoopSig) := [(4, L17_0)]
theorem k17 : (Code.loops c17).length = 1 := by kernel_rfl
noncomputable def lb17_0 : Code := (Code.loops c17).getD 0 .skip
def rt17_0 : VT :=
  (.ite (.bin .lt (.var 1) (.un .len (.var 6)))
   (.need (.t true) (.c (.bin .le (.n 0) (.var 1)))
   (.need (.t true) (.pre 33 (.cons (.sel 0 (.var 6) (.var 1)) (.cons (.sel 1 (.var 6) (.var 1)) (.cons (.sel 2 (.var 6) (.var 1)) (.cons (.sel 3 (.var 6) (.var 1)) (.cons (.sel 4 (.var 6) (.var 1)) (.cons (.sel 5 (.var 6) (.var 1)) (.cons (.sel 6 (.var 6) (.var 1)) (.cons (.sel 7 (.var 6) (.var 1)) .nil)))))))))
   (.lt (.app 33 (.cons (.sel 0 (.var 6) (.var 1)) (.cons (.sel 1 (.var 6) (.var 1)) (.cons (.sel 2 (.var 6) (.var 1)) (.cons (.sel 3 (.var 6) (.var 1)) (.cons (.sel 4 (.var 6) (.var 1)) (.cons (.sel 5 (.var 6) (.var 1)) (.cons (.sel 6 (.var 6) (.var 1)) (.cons (.sel 7 (.var 6) (.var 1)) .nil)))))))) 0) 1
   (.ite (.un .not (.bin .eq (.var 7) (.n 0)))
    (.ret (.cons (.n 0) (.cons (.var 7) (.cons (.var 1) .nil))))
    (.ret (.cons (.n (-1)) (.cons (.var 0) (.cons (.bin (.add .i64) (.var 1) (.n 1)) .nil))))))))
   (.ret (.cons (.n 1) (.cons (.var 0) (.cons (.var 1) .nil)))))
theorem le17_0 : (loopVT Try.prog (sgOf sg17) (ltOf lt17) L17_0 lb17_0).slim L17_0.nv [] = rt17_0 := by kernel_rfl
theorem lf17_0 : (firstRegion lb17_0).bind (ltOf lt17) = some L17_0 := by kernel_rfl
theorem lk17_0 : (Code.loops lb17_0).length = 0 := by kernel_rfl
def vt17 : VT :=
  (.ite (.bin .lt (.n 2048) (.un .len (.var 4)))
   (.ret (.cons (.n 2) .nil))
   (.need (.t true) (.pre 11700 (.cons (.n 0) (.cons (.n 0) (.cons (.var 0) (.cons (.var 1) (.cons (.var 2) (.cons (.var 3) (.cons (.var 4) .nil))))))))
   (.lt (.app 11700 (.cons (.n 0) (.cons (.n 0) (.cons (.var 0) (.cons (.var 1) (.cons (.var 2) (.cons (.var 3) (.cons (.var 4) .nil))))))) 0) 3
   (.ite (.bin .eq (.var 5) (.n 0))
    (.ret (.cons (.var 6) .nil))
    (.need (.t true) (.pre 34 (.cons (.var 4) .nil))
    (.lt (.app 34 (.cons (.var 4) .nil) 0) 4
    (.ite (.un .not (.ite (.bin .eq (.var 8) (.var 0)) (.ite (.bin .eq (.var 9) (.var 1)) (.ite (.bin .eq (.var 10) (.var 2)) (.bin .eq (.var 11) (.var 3)) (.t false)) (.t false)) (.t false)))
     (.ret (.cons (.n 13) .nil))
     (.ret (.cons (.n 0) .nil)))))))))
theorem e17 : (fnVT Try.prog (sgOf sg17) (ltOf lt17) S17 Try.f17 c17).slim (S17.ps.map fun p => p.2.length).sum [] = vt17 := by kernel_rfl

/-! ### 56 -/
def S56 : Sig := ⟨[(true, [(.int .i64), (.int .i64)])], [(false, [.bool])], [], none⟩
noncomputable def c56 : Code := Try.f56.body.getD .skip
theorem b56 : Try.f56.body = some c56 := body_some (by kernel_rfl)
theorem n56 : (Try.f56.name == "runtime.NumGoroutine") = false := by kernel_rfl
def sg56 : List (FuncId × Sig) := []
def lt56 : List (Nat × LoopSig) := []
theorem k56 : (Code.loops c56).length = 0 := by kernel_rfl
def vt56 : VT :=
  (.ret (.cons (.ite (.ite (.ite (.bin .le (.n (-268435456)) (.var 0)) (.bin .le (.var 0) (.n 268435456)) (.t false)) (.bin .le (.n (-268435456)) (.var 1)) (.t false)) (.bin .le (.var 1) (.n 268435456)) (.t false)) .nil))
theorem e56 : (fnVT Try.prog (sgOf sg56) (ltOf lt56) S56 Try.f56 c56).slim (S56.ps.map fun p => p.2.length).sum [] = vt56 := by kernel_rfl
def T56 : FuncId → List D → List D := tabOf []
def fn56 (ρ : List D) : List D := vt56.val T56 ρ
theorem m56 : Meets Try.prog 56 S56 (fun _ => True) fn56 := meets_easy (sgl := sg56) (Φ := T56) mixed ((fun _ h => nomatch h)) Try.func56 b56 n56 k56 e56 (by kernel_rfl)

/-! ### 38 -/
def S38 : Sig := ⟨[(true, [(.int .i64), (.int .i64), (.int .i64), (.int .i64)])], [(false, [.bool])], [], none⟩
noncomputable def c38 : Code := Try.f38.body.getD .skip
theorem b38 : Try.f38.body = some c38 := body_some (by kernel_rfl)
theorem n38 : (Try.f38.name == "runtime.NumGoroutine") = false := by kernel_rfl
def sg38 : List (FuncId × Sig) := [(56, S56)]
def lt38 : List (Nat × LoopSig) := []
theorem k38 : (Code.loops c38).length = 0 := by kernel_rfl
def vt38 : VT :=
  (.need (.t true) (.pre 56 (.cons (.var 0) (.cons (.var 1) .nil)))
  (.lt (.app 56 (.cons (.var 0) (.cons (.var 1) .nil)) 0) 1
  (.need (.var 4) (.pre 56 (.cons (.var 2) (.cons (.var 3) .nil)))
  (.lt (.app 56 (.cons (.var 2) (.cons (.var 3) .nil)) 0) 1
  (.ret (.cons (.ite (.ite (.ite (.var 4) (.var 5) (.t false)) (.bin .le (.var 0) (.var 2)) (.t false)) (.bin .le (.var 1) (.var 3)) (.t false)) .nil))))))
theorem e38 : (fnVT Try.prog (sgOf sg38) (ltOf lt38) S38 Try.f38 c38).slim (S38.ps.map fun p => p.2.length).sum [] = vt38 := by kernel_rfl
def T38 : FuncId → List D → List D := tabOf [(56, fn56)]
def fn38 (ρ : List D) : List D := vt38.val T38 ρ
theorem m38 : Meets Try.prog 38 S38 (fun _ => True) fn38 := meets_easy (sgl := sg38) (Φ := T38) mixed (List.forall_mem_cons.2 ⟨m56, (fun _ h => nomatch h)⟩) Try.func38 b38 n38 k38 e38 (by kernel_rfl)

/-! ### 54 -/
def S54 : Sig := ⟨[(true, [(.int .i64), (.int .i64), (.int .i64), (.int .i64)]), (true, [(.int .i64), (.int .i64)])], [(false, [.bool])], [], none⟩
noncomputable def c54 : Code := Try.f54.body.getD .skip
theorem b54 : Try.f54.body = some c54 := body_some (by kernel_rfl)
theorem n54 : (Try.f54.name == "runtime.NumGoroutine") = false := by kernel_rfl
def sg54 : List (FuncId × Sig) := [(38, S38), (56, S56)]
def lt54 : List (Nat × LoopSig) := []
theorem k54 : (Code.loops c54).length = 0 := by kernel_rfl
def vt54 : VT :=
  (.need (.t true) (.pre 38 (.cons (.var 0) (.cons (.var 1) (.cons (.var 2) (.cons (.var 3) .nil)))))
  (.lt (.app 38 (.cons (.var 0) (.cons (.var 1) (.cons (.var 2) (.cons (.var 3) .nil)))) 0) 1
  (.need (.var 6) (.pre 56 (.cons (.var 4) (.cons (.var 5) .nil)))
  (.lt (.app 56 (.cons (.var 4) (.cons (.var 5) .nil)) 0) 1
  (.ret (.cons (.ite (.ite (.ite (.ite (.ite (.var 6) (.var 7) (.t false)) (.bin .le (.var 0) (.var 4)) (.t false)) (.bin .le (.var 4) (.var 2)) (.t false)) (.bin .le (.var 1) (.var 5)) (.t false)) (.bin .le (.var 5) (.var 3)) (.t false)) .nil))))))
theorem e54 : (fnVT Try.prog (sgOf sg54) (ltOf lt54) S54 Try.f54 c54).slim (S54.ps.map fun p => p.2.length).sum [] = vt54 := by kernel_rfl
def T54 : FuncId → List D → List D := tabOf [(38, fn38), (56, fn56)]
def fn54 (ρ : List D) : List D := vt54.val T54 ρ
theorem m54 : Meets Try.prog 54 S54 (fun _ => True) fn54 := meets_easy (sgl := sg54) (Φ := T54) mixed (List.forall_mem_cons.2 ⟨m38, List.forall_mem_cons.2 ⟨m56, (fun _ h => nomatch h)⟩⟩) Try.func54 b54 n54 k54 e54 (by kernel_rfl)

/-! ### 32 -/
def S32 : Sig := ⟨[(true, [(.int .i64), (.int .i64), (.int .i64), (.int .i64), (.int .i64), (.int .i64), (.sl 24 [(.int .i64), (.int .i64)]), .str]), (true, [(.int .i64), (.int .i64)]), (false, [(.int .i64)])], [(false, [.bool])], [], none⟩
noncomputable def c32 : Code := Try.f32.body.getD .skip
theorem b32 : Try.f32.body = some c32 := body_some (by kernel_rfl)
theorem n32 : (Try.f32.name == "runtime.NumGoroutine") = false := by kernel_rfl
def sg32 : List (FuncId × Sig) := [(10, S10), (54, S54)]
def lt32 : List (Nat × LoopSig) := []
theorem k32 : (Code.loops c32).length = 0 := by kernel_rfl
def vt32 : VT :=
  (.ite (.bin .eq (.var 0) (.n 3))
   (.need (.t true) (.pre 10 (.cons (.var 6) (.cons (.var 8) (.cons (.var 9) (.cons (.var 10) .nil)))))
   (.lt (.app 10 (.cons (.var 6) (.cons (.var 8) (.cons (.var 9) (.cons (.var 10) .nil)))) 0) 1
   (.ret (.cons (.var 11) .nil))))
   (.need (.t true) (.pre 54 (.cons (.var 2) (.cons (.var 3) (.cons (.var 4) (.cons (.var 5) (.cons (.var 8) (.cons (.var 9) .nil)))))))
   (.lt (.app 54 (.cons (.var 2) (.cons (.var 3) (.cons (.var 4) (.cons (.var 5) (.cons (.var 8) (.cons (.var 9) .nil)))))) 0) 1
   (.ret (.cons (.var 11) .nil)))))
theorem e32 : (fnVT Try.prog (sgOf sg32) (ltOf lt32) S32 Try.f32 c32).slim (S32.ps.map fun p => p.2.length).sum [] = vt32 := by kernel_rfl

/-! ### 14 -/
def S14 : Sig := ⟨[(true, [(.int .i64), (.int .i64), (.int .i64), (.int .i64), (.sl 46 [(.int .i64), (.int .i64), (.int .i64), (.int .i64), (.int .i64), (.int .i64), (.sl 24 [(.int .i64), (.int .i64)]), .str])]), (true, [(.int .i64), (.int .i64)]), (false, [(.int .i64)])], [(false, [(.sl 3 [(.int .i64)])])], [], none⟩
noncomputable def c14 : Code := Try.f14.body.getD .skip
theorem b14 : Try.f14.body = some c14 := body_some (by kernel_rfl)
theorem n14 : (Try.f14.name == "runtime.NumGoroutine") = false := by kernel_rfl
def sg14 : List (FuncId × Sig) := [(17, S17), (27, S27), (28, S28), (32, S32)]
def L14_0 : LoopSig := ⟨11400, [(7, none, 3)],
   ⟨[.any, .any, (.c (.x (.int .i64) (.var 0))), (.c (.ptr 0 0)), (.c (.ptr 1 0)), .any, .any, (.c (.row 2 1)), (.c (.x (.int .i64) (.var 1))), .any, .any, .any, .any, .any, .any, .any, .any, .any, .any, .any, .any, .any, .any, .any, .any, .any, .any, .any, .any, .any, .any, .any, .any, .any, .any, .any, .any, .any, .any, .any, .any, .any, .any],
    [some ⟨(.t true), (.box 31 [(.x (.int .i64) (.var 2)), (.x (.int .i64) (.var 3)), (.x (.int .i64) (.var 4)), (.x (.int .i64) (.var 5)), (.x (.sl 46 [(.int .i64), (.int .i64), (.int .i64), (.int .i64), (.int .i64), (.int .i64), (.sl 24 [(.int .i64), (.int .i64)]), .str]) (.var 6))] false)⟩, some ⟨(.t true), (.box 24 [(.x (.int .i64) (.var 7)), (.x (.int .i64) (.var 8))] false)⟩, some ⟨(.t true), (.row 3 [(.int .i64)] (.var 9) 1 false)⟩]⟩,
   10, [1, 9], [26, 27, 30, 31, 32, 33, 34, 35, 36, 37, 38, 39, 40, 41, 7, 28, 29, 8], [(.exit 0)], [9]⟩
def lt14 : List (Nat × LoopSig) := [(5, L14_0)]
theorem k14 : (Code.loops c14).length = 1 := by kernel_rfl
noncomputable def lb14_0 : Code := (Code.loops c14).getD 0 .skip
def rt14_0 : VT :=
  (.ite (.bin .le (.n 0) (.var 1))
   (.need (.t true) (.c (.bin .lt (.var 1) (.un .len (.var 6))))
   (.need (.t true) (.pre 32 (.cons (.sel 0 (.var 6) (.var 1)) (.cons (.sel 1 (.var 6) (.var 1)) (.cons (.sel 2 (.var 6) (.var 1)) (.cons (.sel 3 (.var 6) (.var 1)) (.cons (.sel 4 (.var 6) (.var 1)) (.cons (.sel 5 (.var 6) (.var 1)) (.cons (.sel 6 (.var 6) (.var 1)) (.cons (.sel 7 (.var 6) (.var 1)) (.cons (.var 7) (.cons (.var 8) (.cons (.var 0) .nil))))))))))))
   (.lt (.app 32 (.cons (.sel 0 (.var 6) (.var 1)) (.cons (.sel 1 (.var 6) (.var 1)) (.cons (.sel 2 (.var 6) (.var 1)) (.cons (.sel 3 (.var 6) (.var 1)) (.cons (.sel 4 (.var 6) (.var 1)) (.cons (.sel 5 (.var 6) (.var 1)) (.cons (.sel 6 (.var 6) (.var 1)) (.cons (.sel 7 (.var 6) (.var 1)) (.cons (.var 7) (.cons (.var 8) (.cons (.var 0) .nil))))))))))) 0) 1
   (.ite (.var 10)
    (.need (.t true) (.c (.bin .le (.un .len (.bin .cat (.var 9) (.lcons (.cons (.var 1) .nil) .lnil))) (.n 17592186044416)))
    (.ret (.cons (.n (-1)) (.cons (.bin (.sub .i64) (.var 1) (.n 1)) (.cons (.bin .cat (.var 9) (.lcons (.cons (.var 1) .nil) .lnil)) .nil)))))
    (.ret (.cons (.n (-1)) (.cons (.bin (.sub .i64) (.var 1) (.n 1)) (.cons (.var 9) .nil))))))))
   (.ret (.cons (.n 0) (.cons (.var 1) (.cons (.var 9) .nil)))))
theorem le14_0 : (loopVT Try.prog (sgOf sg14) (ltOf lt14) L14_0 lb14_0).slim L14_0.nv [] = rt14_0 := by kernel_rfl
theorem lf14_0 : (firstRegion lb14_0).bind (ltOf lt14) = some L14_0 := by kernel_rfl
theorem lk14_0 : (Code.loops lb14_0).length = 0 := by kernel_rfl
def vt14 : VT :=
  (.need (.t true) (.pre 17 (.cons (.var 0) (.cons (.var 1) (.cons (.var 2) (.cons (.var 3) (.cons (.var 4) .nil))))))
  (.lt (.app 17 (.cons (.var 0) (.cons (.var 1) (.cons (.var 2) (.cons (.var 3) (.cons (.var 4) .nil))))) 0) 1
  (.need (.bin .eq (.var 8) (.n 0)) (.pre 27 (.cons (.var 5) (.cons (.var 6) .nil)))
  (.lt (.app 27 (.cons (.var 5) (.cons (.var 6) .nil)) 0) 1
  (.need (.un .not (.ite (.un .not (.bin .eq (.var 8) (.n 0))) (.t true) (.un .not (.var 9)))) (.pre 28 (.cons (.var 7) .nil))
  (.lt (.app 28 (.cons (.var 7) .nil) 0) 1
  (.ite (.ite (.ite (.un .not (.bin .eq (.var 8) (.n 0))) (.t true) (.un .not (.var 9))) (.t true) (.un .not (.var 10)))
   (.ret (.cons .lnil .nil))
   (.need (.t true) (.pre 11400 (.cons (.var 7) (.cons (.bin (.sub .i64) (.un .len (.var 4)) (.n 1)) (.cons (.var 0) (.cons (.var 1) (.cons (.var 2) (.cons (.var 3) (.cons (.var 4) (.cons (.var 5) (.cons (.var 6) (.cons .lnil .nil)))))))))))
   (.lt (.app 11400 (.cons (.var 7) (.cons (.bin (.sub .i64) (.un .len (.var 4)) (.n 1)) (.cons (.var 0) (.cons (.var 1) (.cons (.var 2) (.cons (.var 3) (.cons (.var 4) (.cons (.var 5) (.cons (.var 6) (.cons .lnil .nil)))))))))) 0) 3
   (.ret (.cons (.var 13) .nil)))))))))))
theorem e14 : (fnVT Try.prog (sgOf sg14) (ltOf lt14) S14 Try.f14 c14).slim (S14.ps.map fun p => p.2.length).sum [] = vt14 := by kernel_rfl

/-! ### 16 -/
def S16 : Sig := ⟨[(true, [(.int .i64), (.int .i64), (.int .i64), (.int .i64), (.sl 46 [(.int .i64), (.int .i64), (.int .i64), (.int .i64), (.int .i64), (.int .i64), (.sl 24 [(.int .i64), (.int .i64)]), .str])]), (true, [(.int .i64), (.int .i64)]), (false, [(.int .i64)])], [(false, [(.int .i64)])], [], none⟩
noncomputable def c16 : Code := Try.f16.body.getD .skip
theorem b16 : Try.f16.body = some c16 := body_some (by kernel_rfl)
theorem n16 : (Try.f16.name == "runtime.NumGoroutine") = false := by kernel_rfl
def sg16 : List (FuncId × Sig) := [(14, S14)]
def lt16 : List (Nat × LoopSig) := []
theorem k16 : (Code.loops c16).length = 0 := by kernel_rfl
def vt16 : VT :=
  (.need (.t true) (.pre 14 (.cons (.var 0) (.cons (.var 1) (.cons (.var 2) (.cons (.var 3) (.cons (.var 4) (.cons (.var 5) (.cons (.var 6) (.cons (.var 7) .nil)))))))))
  (.lt (.app 14 (.cons (.var 0) (.cons (.var 1) (.cons (.var 2) (.cons (.var 3) (.cons (.var 4) (.cons (.var 5) (.cons (.var 6) (.cons (.var 7) .nil)))))))) 0) 1
  (.ite (.bin .eq (.un .len (.var 8)) (.n 0))
   (.ret (.cons (.n (-1)) .nil))
   (.need (.t true) (.c (.bin .lt (.n 0) (.un .len (.var 8))))
   (.ret (.cons (.sel 0 (.var 8) (.n 0)) .nil))))))
theorem e16 : (fnVT Try.prog (sgOf sg16) (ltOf lt16) S16 Try.f16 c16).slim (S16.ps.map fun p => p.2.length).sum [] = vt16 := by kernel_rfl

/-! ### 4 -/
def S4 : Sig := ⟨[(true, [(.int .i64), (.int .i64), (.int .i64), (.int .i64), (.sl 46 [(.int .i64), (.int .i64), (.int .i64), (.int .i64), (.int .i64), (.int .i64), (.sl 24 [(.int .i64), (.int .i64)]), .str])]), (true, [(.int .i64), (.int .i64)]), (false, [(.int .i64)])], [(false, [.bool])], [], none⟩
noncomputable def c4 : Code := Try.f4.body.getD .skip
theorem b4 : Try.f4.body = some c4 := body_some (by kernel_rfl)
theorem n4 : (Try.f4.name == "runtime.NumGoroutine") = false := by kernel_rfl
def sg4 : List (FuncId × Sig) := [(11, S11), (8, S8), (13, S13), (14, S14), (12, S12), (15, S15), (16, S16)]
def lt4 : List (Nat × LoopSig) := []
theorem k4 : (Code.loops c4).length = 0 := by kernel_rfl
def vt4 : VT :=
  (.need (.t true) (.pre 11 (.cons (.var 0) (.cons (.var 1) (.cons (.var 2) (.cons (.var 3) (.cons (.var 4) .nil))))))
  (.lt (.app 11 (.cons (.var 0) (.cons (.var 1) (.cons (.var 2) (.cons (.var 3) (.cons (.var 4) .nil))))) 0) 1
  (.ite (.un .not (.var 8))
   (.need (.t true) (.pre 8 .nil)
   (.lt (.app 8 .nil 0) 1
   (.ret (.cons (.var 9) .nil))))
   (.need (.t true) (.pre 13 (.cons (.var 0) (.cons (.var 1) (.cons (.var 2) (.cons (.var 3) (.cons (.var 4) (.cons (.var 5) (.cons (.var 6) (.cons (.var 7) .nil)))))))))
   (.lt (.app 13 (.cons (.var 0) (.cons (.var 1) (.cons (.var 2) (.cons (.var 3) (.cons (.var 4) (.cons (.var 5) (.cons (.var 6) (.cons (.var 7) .nil)))))))) 0) 1
   (.need (.t true) (.pre 14 (.cons (.var 0) (.cons (.var 1) (.cons (.var 2) (.cons (.var 3) (.cons (.var 4) (.cons (.var 5) (.cons (.var 6) (.cons (.var 7) .nil)))))))))
   (.lt (.app 14 (.cons (.var 0) (.cons (.var 1) (.cons (.var 2) (.cons (.var 3) (.cons (.var 4) (.cons (.var 5) (.cons (.var 6) (.cons (.var 7) .nil)))))))) 0) 1
   (.need (.t true) (.pre 12 (.cons (.var 9) (.cons (.var 10) .nil)))
   (.lt (.app 12 (.cons (.var 9) (.cons (.var 10) .nil)) 0) 1
   (.need (.var 11) (.pre 15 (.cons (.var 0) (.cons (.var 1) (.cons (.var 2) (.cons (.var 3) (.cons (.var 4) (.cons (.var 5) (.cons (.var 6) (.cons (.var 7) .nil)))))))))
   (.lt (.app 15 (.cons (.var 0) (.cons (.var 1) (.cons (.var 2) (.cons (.var 3) (.cons (.var 4) (.cons (.var 5) (.cons (.var 6) (.cons (.var 7) .nil)))))))) 0) 1
   (.need (.var 11) (.pre 16 (.cons (.var 0) (.cons (.var 1) (.cons (.var 2) (.cons (.var 3) (.cons (.var 4) (.cons (.var 5) (.cons (.var 6) (.cons (.var 7) .nil)))))))))
   (.lt (.app 16 (.cons (.var 0) (.cons (.var 1) (.cons (.var 2) (.cons (.var 3) (.cons (.var 4) (.cons (.var 5) (.cons (.var 6) (.cons (.var 7) .nil)))))))) 0) 1
   (.need (.ite (.var 11) (.bin .eq (.var 12) (.var 13)) (.t false)) (.pre 8 .nil)
   (.lt (.app 8 .nil 0) 1
   (.ret (.cons (.ite (.ite (.var 11) (.bin .eq (.var 12) (.var 13)) (.t false)) (.var 14) (.t false)) .nil)))))))))))))))))
theorem e4 : (fnVT Try.prog (sgOf sg4) (ltOf lt4) S4 Try.f4 c4).slim (S4.ps.map fun p => p.2.length).sum [] = vt4 := by kernel_rfl

/-! ### 40 -/
def S40 : Sig := ⟨[(true, [(.int .i64), (.int .i64), (.int .i64), (.int .i64)]), (true, [(.int .i64), (.int .i64), (.int .i64), (.int .i64)])], [(false, [.bool])], [], none⟩
noncomputable def c40 : Code := Try.f40.body.getD .skip
theorem b40 : Try.f40.body = some c40 := body_some (by kernel_rfl)
theorem n40 : (Try.f40.name == "runtime.NumGoroutine") = false := by kernel_rfl
def sg40 : List (FuncId × Sig) := [(38, S38), (54, S54)]
def lt40 : List (Nat × LoopSig) := []
theorem k40 : (Code.loops c40).length = 0 := by kernel_rfl
def vt40 : VT :=
  (.need (.t true) (.pre 38 (.cons (.var 0) (.cons (.var 1) (.cons (.var 2) (.cons (.var 3) .nil)))))
  (.lt (.app 38 (.cons (.var 0) (.cons (.var 1) (.cons (.var 2) (.cons (.var 3) .nil)))) 0) 1
  (.need (.var 8) (.pre 54 (.cons (.var 4) (.cons (.var 5) (.cons (.var 6) (.cons (.var 7) (.cons (.var 0) (.cons (.var 1) .nil)))))))
  (.lt (.app 54 (.cons (.var 4) (.cons (.var 5) (.cons (.var 6) (.cons (.var 7) (.cons (.var 0) (.cons (.var 1) .nil)))))) 0) 1
  (.need (.ite (.var 8) (.var 9) (.t false)) (.pre 54 (.cons (.var 4) (.cons (.var 5) (.cons (.var 6) (.cons (.var 7) (.cons (.var 2) (.cons (.var 3) .nil)))))))
  (.lt (.app 54 (.cons (.var 4) (.cons (.var 5) (.cons (.var 6) (.cons (.var 7) (.cons (.var 2) (.cons (.var 3) .nil)))))) 0) 1
  (.ret (.cons (.ite (.ite (.var 8) (.var 9) (.t false)) (.var 10) (.t false)) .nil))))))))
theorem e40 : (fnVT Try.prog (sgOf sg40) (ltOf lt40) S40 Try.f40 c40).slim (S40.ps.map fun p => p.2.length).sum [] = vt40 := by kernel_rfl
def T40 : FuncId → List D → List D := tabOf [(38, fn38), (54, fn54)]
def fn40 (ρ : List D) : List D := vt40.val T40 ρ
theorem m40 : Meets Try.prog 40 S40 (fun _ => True) fn40 := meets_easy (sgl := sg40) (Φ := T40) mixed (List.forall_mem_cons.2 ⟨m38, List.forall_mem_cons.2 ⟨m54, (fun _ h => nomatch h)⟩⟩) Try.func40 b40 n40 k40 e40 (by kernel_rfl)

/-! ### 19 -/
def S19 : Sig := ⟨[(true, [(.int .i64), (.int .i64), (.int .i64), (.int .i64), (.sl 46 [(.int .i64), (.int .i64), (.int .i64), (.int .i64), (.int .i64), (.int .i64), (.sl 24 [(.int .i64), (.int .i64)]), .str])]), (true, [(.int .i64), (.int .i64), (.int .i64), (.int .i64)])], [(false, [(.sl 3 [(.int .i64)])])], [], none⟩
noncomputable def c19 : Code := Try.f19.body.getD .skip
theorem b19 : Try.f19.body = some c19 := body_some (by kernel_rfl)
theorem n19 : (Try.f19.name == "runtime.NumGoroutine") = false := by kernel_rfl
def sg19 : List (FuncId × Sig) := [(17, S17), (38, S38), (39, S39), (40, S40)]
def L19_0 : LoopSig := ⟨11900, [(5, none, 3)],
   ⟨[.any, .any, (.c (.ptr 0 0)), (.c (.ptr 1 0)), .any, (.c (.row 2 1)), (.c (.x (.int .i64) (.var 0))), .any, .any, .any, .any, .any, .any, .any, .any, .any, .any, .any, .any, .any, .any, .any, .any, .any, .any, .any, .any, .any, .any, .any, .any, .any, .any, .any, .any, .any, .any, .any, .any, .any, .any, .any, .any, .any, .any, .any, .any, .any, .any, .any, .any],
    [some ⟨(.t true), (.box 31 [(.x (.int .i64) (.var 1)), (.x (.int .i64) (.var 2)), (.x (.int .i64) (.var 3)), (.x (.int .i64) (.var 4)), (.x (.sl 46 [(.int .i64), (.int .i64), (.int .i64), (.int .i64), (.int .i64), (.int .i64), (.sl 24 [(.int .i64), (.int .i64)]), .str]) (.var 5))] false)⟩, some ⟨(.t true), (.box 28 [(.x (.int .i64) (.var 6)), (.x (.int .i64) (.var 7)), (.x (.int .i64) (.var 8)), (.x (.int .i64) (.var 9))] false)⟩, some ⟨(.t true), (.row 3 [(.int .i64)] (.var 10) 1 false)⟩]⟩,
   11, [0, 10], [16, 17, 18, 19, 20, 23, 24, 25, 26, 27, 28, 7, 29, 30, 31, 32, 33, 34, 35, 36, 37, 38, 39, 40, 41, 42, 43, 44, 45, 46, 47, 48, 49, 5, 21, 22, 6], [(.exit 0)], [10]⟩
def lt19 : List (Nat × LoopSig) := [(5, L19_0)]
theorem k19 : (Code.loops c19).length = 1 := by kernel_rfl
noncomputable def lb19_0 : Code := (Code.loops c19).getD 0 .skip
def rt19_0 : VT :=
  (.ite (.bin .lt (.var 0) (.un .len (.var 5)))
   (.need (.t true) (.c (.bin .le (.n 0) (.var 0)))
   (.ite (.bin .eq (.sel 0 (.var 5) (.var 0)) (.n 3))
    (.need (.t true) (.pre 39 (.cons (.sel 6 (.var 5) (.var 0)) .nil))
    (.lt (.app 39 (.cons (.sel 6 (.var 5) (.var 0)) .nil) 0) 4
    (.need (.t true) (.pre 40 (.cons (.var 11) (.cons (.var 12) (.cons (.var 13) (.cons (.var 14) (.cons (.var 6) (.cons (.var 7) (.cons (.var 8) (.cons (.var 9) .nil)))))))))
    (.lt (.app 40 (.cons (.var 11) (.cons (.var 12) (.cons (.var 13) (.cons (.var 14) (.cons (.var 6) (.cons (.var 7) (.cons (.var 8) (.cons (.var 9) .nil)))))))) 0) 1
    (.ite (.var 15)
     (.need (.t true) (.c (.bin .le (.un .len (.bin .cat (.var 10) (.lcons (.cons (.var 0) .nil) .lnil))) (.n 17592186044416)))
     (.ret (.cons (.n (-1)) (.cons (.bin (.add .i64) (.var 0) (.n 1)) (.cons (.bin .cat (.var 10) (.lcons (.cons (.var 0) .nil) .lnil)) .nil)))))
     (.ret (.cons (.n (-1)) (.cons (.bin (.add .i64) (.var 0) (.n 1)) (.cons (.var 10) .nil)))))))))
    (.need (.t true) (.pre 40 (.cons (.sel 2 (.var 5) (.var 0)) (.cons (.sel 3 (.var 5) (.var 0)) (.cons (.sel 4 (.var 5) (.var 0)) (.cons (.sel 5 (.var 5) (.var 0)) (.cons (.var 6) (.cons (.var 7) (.cons (.var 8) (.cons (.var 9) .nil)))))))))
    (.lt (.app 40 (.cons (.sel 2 (.var 5) (.var 0)) (.cons (.sel 3 (.var 5) (.var 0)) (.cons (.sel 4 (.var 5) (.var 0)) (.cons (.sel 5 (.var 5) (.var 0)) (.cons (.var 6) (.cons (.var 7) (.cons (.var 8) (.cons (.var 9) .nil)))))))) 0) 1
    (.ite (.var 11)
     (.need (.t true) (.c (.bin .le (.un .len (.bin .cat (.var 10) (.lcons (.cons (.var 0) .nil) .lnil))) (.n 17592186044416)))
     (.ret (.cons (.n (-1)) (.cons (.bin (.add .i64) (.var 0) (.n 1)) (.cons (.bin .cat (.var 10) (.lcons (.cons (.var 0) .nil) .lnil)) .nil)))))
     (.ret (.cons (.n (-1)) (.cons (.bin (.add .i64) (.var 0) (.n 1)) (.cons (.var 10) .nil)))))))))
   (.ret (.cons (.n 0) (.cons (.var 0) (.cons (.var 10) .nil)))))
theorem le19_0 : (loopVT Try.prog (sgOf sg19) (ltOf lt19) L19_0 lb19_0).slim L19_0.nv [] = rt19_0 := by kernel_rfl
theorem lf19_0 : (firstRegion lb19_0).bind (ltOf lt19) = some L19_0 := by kernel_rfl
theorem lk19_0 : (Code.loops lb19_0).length = 0 := by kernel_rfl
def vt19 : VT :=
  (.need (.t true) (.pre 17 (.cons (.var 0) (.cons (.var 1) (.cons (.var 2) (.cons (.var 3) (.cons (.var 4) .nil))))))
  (.lt (.app 17 (.cons (.var 0) (.cons (.var 1) (.cons (.var 2) (.cons (.var 3) (.cons (.var 4) .nil))))) 0) 1
  (.need (.bin .eq (.var 9) (.n 0)) (.pre 38 (.cons (.var 5) (.cons (.var 6) (.cons (.var 7) (.cons (.var 8) .nil)))))
  (.lt (.app 38 (.cons (.var 5) (.cons (.var 6) (.cons (.var 7) (.cons (.var 8) .nil)))) 0) 1
  (.ite (.ite (.un .not (.bin .eq (.var 9) (.n 0))) (.t true) (.un .not (.var 10)))
   (.ret (.cons .lnil .nil))
   (.need (.t true) (.pre 11900 (.cons (.n 0) (.cons (.var 0) (.cons (.var 1) (.cons (.var 2) (.cons (.var 3) (.cons (.var 4) (.cons (.var 5) (.cons (.var 6) (.cons (.var 7) (.cons (.var 8) (.cons .lnil .nil))))))))))))
   (.lt (.app 11900 (.cons (.n 0) (.cons (.var 0) (.cons (.var 1) (.cons (.var 2) (.cons (.var 3) (.cons (.var 4) (.cons (.var 5) (.cons (.var 6) (.cons (.var 7) (.cons (.var 8) (.cons .lnil .nil))))))))))) 0) 3
   (.ret (.cons (.var 13) .nil)))))))))
theorem e19 : (fnVT Try.prog (sgOf sg19) (ltOf lt19) S19 Try.f19 c19).slim (S19.ps.map fun p => p.2.length).sum [] = vt19 := by kernel_rfl

/-! ### 5 -/
def S5 : Sig := ⟨[(true, [(.int .i64), (.int .i64), (.int .i64), (.int .i64), (.sl 46 [(.int .i64), (.int .i64), (.int .i64), (.int .i64), (.int .i64), (.int .i64), (.sl 24 [(.int .i64), (.int .i64)]), .str])]), (true, [(.int .i64), (.int .i64), (.int .i64), (.int .i64)])], [(false, [.bool])], [], none⟩
noncomputable def c5 : Code := Try.f5.body.getD .skip
theorem b5 : Try.f5.body = some c5 := body_some (by kernel_rfl)
theorem n5 : (Try.f5.name == "runtime.NumGoroutine") = false := by kernel_rfl
def sg5 : List (FuncId × Sig) := [(11, S11), (8, S8), (17, S17), (18, S18), (19, S19), (12, S12)]
def lt5 : List (Nat × LoopSig) := []
theorem k5 : (Code.loops c5).length = 0 := by kernel_rfl
def vt5 : VT :=
  (.need (.t true) (.pre 11 (.cons (.var 0) (.cons (.var 1) (.cons (.var 2) (.cons (.var 3) (.cons (.var 4) .nil))))))
  (.lt (.app 11 (.cons (.var 0) (.cons (.var 1) (.cons (.var 2) (.cons (.var 3) (.cons (.var 4) .nil))))) 0) 1
  (.ite (.un .not (.var 9))
   (.need (.t true) (.pre 8 .nil)
   (.lt (.app 8 .nil 0) 1
   (.ret (.cons (.var 10) .nil))))
   (.need (.t true) (.pre 17 (.cons (.var 0) (.cons (.var 1) (.cons (.var 2) (.cons (.var 3) (.cons (.var 4) .nil))))))
   (.lt (.app 17 (.cons (.var 0) (.cons (.var 1) (.cons (.var 2) (.cons (.var 3) (.cons (.var 4) .nil))))) 0) 1
   (.need (.bin .eq (.var 10) (.n 0)) (.pre 18 (.cons (.var 0) (.cons (.var 1) (.cons (.var 2) (.cons (.var 3) (.cons (.var 4) (.cons (.var 0) (.cons (.var 1) (.cons (.var 2) (.cons (.var 3) .nil))))))))))
   (.lt (.app 18 (.cons (.var 0) (.cons (.var 1) (.cons (.var 2) (.cons (.var 3) (.cons (.var 4) (.cons (.var 0) (.cons (.var 1) (.cons (.var 2) (.cons (.var 3) .nil))))))))) 0) 1
   (.ite (.ite (.bin .eq (.var 10) (.n 0)) (.un .not (.bin .eq (.un .len (.var 11)) (.un .len (.var 4)))) (.t false))
    (.ret (.cons (.t false) .nil))
    (.need (.t true) (.pre 18 (.cons (.var 0) (.cons (.var 1) (.cons (.var 2) (.cons (.var 3) (.cons (.var 4) (.cons (.var 5) (.cons (.var 6) (.cons (.var 7) (.cons (.var 8) .nil))))))))))
    (.lt (.app 18 (.cons (.var 0) (.cons (.var 1) (.cons (.var 2) (.cons (.var 3) (.cons (.var 4) (.cons (.var 5) (.cons (.var 6) (.cons (.var 7) (.cons (.var 8) .nil))))))))) 0) 1
    (.need (.t true) (.pre 19 (.cons (.var 0) (.cons (.var 1) (.cons (.var 2) (.cons (.var 3) (.cons (.var 4) (.cons (.var 5) (.cons (.var 6) (.cons (.var 7) (.cons (.var 8) .nil))))))))))
    (.lt (.app 19 (.cons (.var 0) (.cons (.var 1) (.cons (.var 2) (.cons (.var 3) (.cons (.var 4) (.cons (.var 5) (.cons (.var 6) (.cons (.var 7) (.cons (.var 8) .nil))))))))) 0) 1
    (.need (.t true) (.pre 12 (.cons (.var 12) (.cons (.var 13) .nil)))
    (.lt (.app 12 (.cons (.var 12) (.cons (.var 13) .nil)) 0) 1
    (.need (.var 14) (.pre 8 .nil)
    (.lt (.app 8 .nil 0) 1
    (.ret (.cons (.ite (.var 14) (.var 15) (.t false)) .nil))))))))))))))))))
theorem e5 : (fnVT Try.prog (sgOf sg5) (ltOf lt5) S5 Try.f5 c5).slim (S5.ps.map fun p => p.2.length).sum [] = vt5 := by kernel_rfl

/-! ### 20 -/
def S20 : Sig := ⟨[(false, [(.sl 3 [(.int .i64)])]), (false, [(.int .i64)])], [(false, [.bool])], [], none⟩
noncomputable def c20 : Code := Try.f20.body.getD .skip
theorem b20 : Try.f20.body = some c20 := body_some (by kernel_rfl)
theorem n20 : (Try.f20.name == "runtime.NumGoroutine") = false := by kernel_rfl
def sg20 : List (FuncId × Sig) := []
def L20_0 : LoopSig := ⟨12000, [],
   ⟨[(.c (.x (.sl 3 [(.int .i64)]) (.var 0))), (.c (.x (.int .i64) (.var 1))), .any, .any, (.c (.x .bool (.var 2))), (.c (.x (.int .i64) (.var 3))), .any, .any, .any, .any, .any, .any, .any, .any, .any, .any, .any, .any],
    []⟩,
   4, [2, 3], [6, 7, 8, 9, 12, 13, 14, 15, 16, 17, 4, 10, 11, 5], [.ret, (.exit 0)], []⟩
def lt20 : List (Nat × LoopSig) := [(2, L20_0)]
theorem k20 : (Code.loops c20).length = 1 := by kernel_rfl
noncomputable def lb20_0 : Code := (Code.loops c20).getD 0 .skip
def rt20_0 : VT :=
  (.ite (.bin .lt (.var 3) (.un .len (.var 0)))
   (.need (.t true) (.c (.bin .le (.n 0) (.var 3)))
   (.ite (.bin .eq (.sel 0 (.var 0) (.var 3)) (.var 1))
    (.ret (.cons (.n 0) (.cons (.t true) (.cons (.var 3) .nil))))
    (.ret (.cons (.n (-1)) (.cons (.var 2) (.cons (.bin (.add .i64) (.var 3) (.n 1)) .nil))))))
   (.ret (.cons (.n 1) (.cons (.var 2) (.cons (.var 3) .nil)))))
theorem le20_0 : (loopVT Try.prog (sgOf sg20) (ltOf lt20) L20_0 lb20_0).slim L20_0.nv [] = rt20_0 := by kernel_rfl
theorem lf20_0 : (firstRegion lb20_0).bind (ltOf lt20) = some L20_0 := by kernel_rfl
theorem lk20_0 : (Code.loops lb20_0).length = 0 := by kernel_rfl
def vt20 : VT :=
  (.need (.t true) (.pre 12000 (.cons (.var 0) (.cons (.var 1) (.cons (.t false) (.cons (.n 0) .nil)))))
  (.lt (.app 12000 (.cons (.var 0) (.cons (.var 1) (.cons (.t false) (.cons (.n 0) .nil)))) 0) 3
  (.ite (.bin .eq (.var 2) (.n 0))
   (.ret (.cons (.var 3) .nil))
   (.ret (.cons (.t false) .nil)))))
theorem e20 : (fnVT Try.prog (sgOf sg20) (ltOf lt20) S20 Try.f20 c20).slim (S20.ps.map fun p => p.2.length).sum [] = vt20 := by kernel_rfl

/-! ### 6 -/
def S6 : Sig := ⟨[(true, [(.int .i64), (.int .i64), (.int .i64), (.int .i64), (.sl 46 [(.int .i64), (.int .i64), (.int .i64), (.int .i64), (.int .i64), (.int .i64), (.sl 24 [(.int .i64), (.int .i64)]), .str])]), (true, [(.int .i64), (.int .i64)]), (false, [(.int .i64)])], [(false, [.bool])], [], none⟩
noncomputable def c6 : Code := Try.f6.body.getD .skip
theorem b6 : Try.f6.body = some c6 := body_some (by kernel_rfl)
theorem n6 : (Try.f6.name == "runtime.NumGoroutine") = false := by kernel_rfl
def sg6 : List (FuncId × Sig) := [(11, S11), (8, S8), (13, S13), (20, S20)]
def L6_0 : LoopSig := ⟨10600, [],
   ⟨[.any, .any, .any, .any, .any, .any, (.c (.x .bool (.var 0))), (.c (.x (.sl 3 [(.int .i64)]) (.var 1))), (.c (.x (.sl 3 [(.int .i64)]) (.var 2))), (.c (.x (.int .i64) (.var 3))), .any, .any, .any, .any, .any, .any, .any, .any, .any, .any, .any, .any, .any, .any, .any, .any, .any, .any, .any, .any, .any, .any, .any, .any, .any, .any, .any, .any, .any, .any, .any, .any, .any, .any, .any],
    [none, none]⟩,
   4, [0, 3], [31, 32, 33, 34, 37, 38, 39, 40, 41, 42, 43, 6, 35, 36, 9], [.ret, (.exit 0)], []⟩
def lt6 : List (Nat × LoopSig) := [(5, L6_0)]
theorem k6 : (Code.loops c6).length = 1 := by kernel_rfl
noncomputable def lb6_0 : Code := (Code.loops c6).getD 0 .skip
def rt6_0 : VT :=
  (.ite (.bin .lt (.var 3) (.un .len (.var 1)))
   (.need (.t true) (.c (.bin .le (.n 0) (.var 3)))
   (.need (.t true) (.pre 20 (.cons (.var 2) (.cons (.sel 0 (.var 1) (.var 3)) .nil)))
   (.lt (.app 20 (.cons (.var 2) (.cons (.sel 0 (.var 1) (.var 3)) .nil)) 0) 1
   (.ite (.un .not (.var 4))
    (.ret (.cons (.n 0) (.cons (.t false) (.cons (.var 3) .nil))))
    (.ret (.cons (.n (-1)) (.cons (.var 0) (.cons (.bin (.add .i64) (.var 3) (.n 1)) .nil))))))))
   (.ret (.cons (.n 1) (.cons (.var 0) (.cons (.var 3) .nil)))))
theorem le6_0 : (loopVT Try.prog (sgOf sg6) (ltOf lt6) L6_0 lb6_0).slim L6_0.nv [] = rt6_0 := by kernel_rfl
theorem lf6_0 : (firstRegion lb6_0).bind (ltOf lt6) = some L6_0 := by kernel_rfl
theorem lk6_0 : (Code.loops lb6_0).length = 0 := by kernel_rfl
def vt6 : VT :=
  (.need (.t true) (.pre 11 (.cons (.var 0) (.cons (.var 1) (.cons (.var 2) (.cons (.var 3) (.cons (.var 4) .nil))))))
  (.lt (.app 11 (.cons (.var 0) (.cons (.var 1) (.cons (.var 2) (.cons (.var 3) (.cons (.var 4) .nil))))) 0) 1
  (.ite (.ite (.ite (.un .not (.var 8)) (.t true) (.bin .lt (.var 7) (.n 0))) (.t true) (.bin .le (.n 1048576) (.var 7)))
   (.need (.t true) (.pre 8 .nil)
   (.lt (.app 8 .nil 0) 1
   (.ret (.cons (.var 9) .nil))))
   (.need (.t true) (.pre 13 (.cons (.var 0) (.cons (.var 1) (.cons (.var 2) (.cons (.var 3) (.cons (.var 4) (.cons (.var 5) (.cons (.var 6) (.cons (.var 7) .nil)))))))))
   (.lt (.app 13 (.cons (.var 0) (.cons (.var 1) (.cons (.var 2) (.cons (.var 3) (.cons (.var 4) (.cons (.var 5) (.cons (.var 6) (.cons (.var 7) .nil)))))))) 0) 1
   (.need (.t true) (.pre 13 (.cons (.var 0) (.cons (.var 1) (.cons (.var 2) (.cons (.var 3) (.cons (.var 4) (.cons (.var 5) (.cons (.var 6) (.cons (.bin (.add .i64) (.var 7) (.n 1)) .nil)))))))))
   (.lt (.app 13 (.cons (.var 0) (.cons (.var 1) (.cons (.var 2) (.cons (.var 3) (.cons (.var 4) (.cons (.var 5) (.cons (.var 6) (.cons (.bin (.add .i64) (.var 7) (.n 1)) .nil)))))))) 0) 1
   (.need (.t true) (.pre 10600 (.cons (.t false) (.cons (.var 9) (.cons (.var 10) (.cons (.n 0) .nil)))))
   (.lt (.app 10600 (.cons (.t false) (.cons (.var 9) (.cons (.var 10) (.cons (.n 0) .nil)))) 0) 3
   (.ite (.bin .eq (.var 11) (.n 0))
    (.ret (.cons (.var 12) .nil))
    (.need (.t true) (.pre 8 .nil)
    (.lt (.app 8 .nil 0) 1
    (.ret (.cons (.var 14) .nil))))))))))))))
theorem e6 : (fnVT Try.prog (sgOf sg6) (ltOf lt6) S6 Try.f6 c6).slim (S6.ps.map fun p => p.2.length).sum [] = vt6 := by kernel_rfl

/-! ### 7 -/
def S7 : Sig := ⟨[(false, [(.sl 24 [(.int .i64), (.int .i64)])]), (false, [(.int .i64)]), (false, [(.int .i64)]), (false, [(.int .i64)])], [(false, [.bool])], [], none⟩
noncomputable def c7 : Code := Try.f7.body.getD .skip
theorem b7 : Try.f7.body = some c7 := body_some (by kernel_rfl)
theorem n7 : (Try.f7.name == "runtime.NumGoroutine") = false := by kernel_rfl
def sg7 : List (FuncId × Sig) := [(21, S21), (8, S8), (9, S9)]
def lt7 : List (Nat × LoopSig) := []
theorem k7 : (Code.loops c7).length = 0 := by kernel_rfl
def vt7 : VT :=
  (.need (.un .not (.bin .lt (.n 100) (.un .len (.var 0)))) (.pre 21 (.cons (.var 0) .nil))
  (.lt (.app 21 (.cons (.var 0) .nil) 0) 1
  (.ite (.ite (.ite (.ite (.ite (.ite (.ite (.ite (.bin .lt (.n 100) (.un .len (.var 0))) (.t true) (.un .not (.var 4))) (.t true) (.bin .lt (.var 1) (.n 0))) (.t true) (.bin .le (.un .len (.var 0)) (.var 1))) (.t true) (.bin .lt (.var 3) (.n 0))) (.t true) (.bin .lt (.n 1048576) (.var 3))) (.t true) (.bin .lt (.var 2) (.un (.neg .i64) (.var 3)))) (.t true) (.bin .lt (.var 3) (.var 2)))
   (.need (.t true) (.pre 8 .nil)
   (.lt (.app 8 .nil 0) 1
   (.ret (.cons (.var 5) .nil))))
   (.need (.t true) (.c (.bin .le (.n 0) (.var 1)))
   (.need (.t true) (.c (.bin .lt (.var 1) (.un .len (.var 0))))
   (.ite (.ite (.bin .lt (.bin (.add .i64) (.sel 0 (.var 0) (.var 1)) (.var 2)) (.n (-268435456))) (.t true) (.bin .lt (.n 268435456) (.bin (.add .i64) (.sel 0 (.var 0) (.var 1)) (.var 2))))
    (.need (.t true) (.pre 8 .nil)
    (.lt (.app 8 .nil 0) 1
    (.ret (.cons (.var 5) .nil))))
    (.need (.t true) (.pre 9 (.cons (.var 0) (.cons (.sel 0 (.var 0) (.var 1)) (.cons (.sel 1 (.var 0) (.var 1)) (.cons (.n 0) .nil)))))
    (.lt (.app 9 (.cons (.var 0) (.cons (.sel 0 (.var 0) (.var 1)) (.cons (.sel 1 (.var 0) (.var 1)) (.cons (.n 0) .nil)))) 0) 1
    (.need (.var 5) (.pre 9 (.cons (.var 0) (.cons (.bin (.add .i64) (.sel 0 (.var 0) (.var 1)) (.var 2)) (.cons (.sel 1 (.var 0) (.var 1)) (.cons (.var 3) .nil)))))
    (.lt (.app 9 (.cons (.var 0) (.cons (.bin (.add .i64) (.sel 0 (.var 0) (.var 1)) (.var 2)) (.cons (.sel 1 (.var 0) (.var 1)) (.cons (.var 3) .nil)))) 0) 1
    (.need (.ite (.var 5) (.var 6) (.t false)) (.pre 8 .nil)
    (.lt (.app 8 .nil 0) 1
    (.ret (.cons (.ite (.ite (.var 5) (.var 6) (.t false)) (.var 7) (.t false)) .nil))))))))))))))
theorem e7 : (fnVT Try.prog (sgOf sg7) (ltOf lt7) S7 Try.f7 c7).slim (S7.ps.map fun p => p.2.length).sum [] = vt7 := by kernel_rfl

end Go.Proofs.Ytpnfcopgmeggoaa.rv
