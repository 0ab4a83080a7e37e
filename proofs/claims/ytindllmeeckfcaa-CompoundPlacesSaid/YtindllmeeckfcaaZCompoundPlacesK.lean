/-
  The functions of the program as they are run: printed by program.
-/
import Derived.Test.YtindllmeeckfcaaZCompoundPlacesJ
namespace Go.Proofs.Ytindllmeeckfcaa.rv
open Go.RV
set_option maxRecDepth 100000
def S27 : Sig := ⟨[(true, [i6, i6, i6, i6])], [(false, [.bool])], [], none⟩
noncomputable def c27 : Code := Try.f27.body.getD .skip
theorem b27 : Try.f27.body = some c27 := body_some (by kernel_rfl)
theorem n27 : (Try.f27.name == "runtime.NumGoroutine") = false := by kernel_rfl
def sg27 : List (FuncId × Sig) := [(17, S17)]
def lt27 : List (Nat × LoopSig) := []
theorem k27 : (Code.loops c27).length = 0 := by kernel_rfl
def vt27 : VT :=
 (.need Tt (.pre 17 (.cons V0 (.cons V1 (.cons V2 (.cons V3 .nil)))))
 (.lt (.app 17 (.cons V0 (.cons V1 (.cons V2 (.cons V3 .nil)))) 0) 1
 (.ret (.cons (.un .not V4) .nil))))
theorem e27 : (fnVT Try.prog (sgOf sg27) (ltOf lt27) S27 Try.f27 c27).slim (S27.ps.map fun p => p.2.length).sum [] = vt27 := by kernel_rfl
def T27 : FuncId → List D → List D := tabOf [(17, fn17)]
def fn27 (ρ : List D) : List D := vt27.val T27 ρ
theorem m27 : Meets Try.prog 27 S27 (fun _ => True) fn27 := meets_easy (sgl := sg27) (Φ := T27) mixed (List.forall_mem_cons.2 ⟨m17, (fun _ h => nomatch h)⟩) Try.func27 b27 n27 k27 e27 (by kernel_rfl)
def S11 : Sig := ⟨[(true, [.str, .bool, Ty0, Ty2, Ty5]), (true, [i6, i6, i6, i6, i6]), (false, [Ty3]), (false, [Ty3])], [(false, [i6])], [], none⟩
noncomputable def c11 : Code := Try.f11.body.getD .skip
theorem b11 : Try.f11.body = some c11 := body_some (by kernel_rfl)
theorem n11 : (Try.f11.name == "runtime.NumGoroutine") = false := by kernel_rfl
def sg11 : List (FuncId × Sig) := [(26, S26), (28, S28), (25, S25), (29, S29), (30, S30), (31, S31)]
def L11_0 : LoopSig := ⟨11100, [],
   ⟨[.any, .any, .any, .any, (.c (.ptr 0 0)), .any, .any, .any, (.c (.x i6 V0)), .any, .any, .any, .any, .any, .any, .any, .any, .any, .any, .any, .any, .any, .any, .any, .any, .any, .any, .any, .any, .any, .any, .any, .any, .any, .any, .any, .any, .any, .any, .any, .any, (.c (.x Ty3 V1)), (.c (.x i6 V2)), (.c (.x i6 V3)), .any, .any, .any, .any, .any, .any, .any, .any, .any, .any, .any, .any, .any, .any, .any, .any, .any, .any, .any, .any, .any, .any, .any, .any, .any, .any, .any, .any, .any, .any, .any, .any, .any, .any, .any],
    [some ⟨Tt, (.box 26 [(.x .str V4), (.x .bool V5), (.x Ty0 V6), (.x Ty2 V7), (.x Ty5 V8)] false)⟩]⟩,
   9, [0, 3], [44, 45, 46, 47, 12, 11, 48, 49, 50, 51, 52, 53, 54, 55, 56, 57, 58, 59, 60, 61, 62, 63, 8, 64, 43], [.ret, (.exit 1)], []⟩
def lt11 : List (Nat × LoopSig) := [(13, L11_0)]
theorem k11 : (Code.loops c11).length = 1 := by kernel_rfl
noncomputable def lb11_0 : Code := (Code.loops c11).getD 0 .skip
def rt11_0 : VT :=
 (.ite (.bin .lt V3 V2)
 (.need Tt (.c (.bin .le N0 V3))
 (.need Tt (.c (.bin .lt V3 (.un .len V1)))
 (.need Tt (.pre 29 (.cons (.sel 0 V1 V3) (.cons (.sel 1 V1 V3) (.cons (.sel 2 V1 V3) (.cons (.sel 3 V1 V3) .nil)))))
 (.lt (.app 29 (.cons (.sel 0 V1 V3) (.cons (.sel 1 V1 V3) (.cons (.sel 2 V1 V3) (.cons (.sel 3 V1 V3) .nil)))) 0) 2
 (.need Tt (.c (.bin .lt V3 (.un .len V6)))
 (.ite (.un .not (.ite (.bin .eq V9 (.sel 2 V6 V3)) (.bin .eq V10 (.sel 3 V6 V3)) (.t false)))
 (.ret (.cons N0 (.cons (.n 13) (.cons V3 .nil))))
 (.ret (.cons (.n (-1)) (.cons V0 (.cons (.bin (.add .i64) V3 (.n 1)) .nil))))))))))
 (.ret (.cons (.n 1) (.cons V0 (.cons V3 .nil)))))
theorem le11_0 : (loopVT Try.prog (sgOf sg11) (ltOf lt11) L11_0 lb11_0).slim L11_0.nv [] = rt11_0 := by kernel_rfl
theorem lf11_0 : (firstRegion lb11_0).bind (ltOf lt11) = some L11_0 := by kernel_rfl
theorem lk11_0 : (Code.loops lb11_0).length = 0 := by kernel_rfl
def vt11 : VT :=
 (.need Tt (.pre 26 (.cons V0 (.cons V1 (.cons V2 (.cons V3 (.cons V4 .nil))))))
 (.lt (.app 26 (.cons V0 (.cons V1 (.cons V2 (.cons V3 (.cons V4 .nil))))) 0) 1
 (.ite (.un .not (.bin .eq V12 N0))
 (.ret (.cons V12 .nil))
 (.need Tt (.pre 28 (.cons V5 (.cons V6 (.cons V7 (.cons V8 (.cons V9 .nil))))))
 (.lt (.app 28 (.cons V5 (.cons V6 (.cons V7 (.cons V8 (.cons V9 .nil))))) 0) 1
 (.ite (.un .not V13)
 (.ret (.cons (.n 7) .nil))
 (.ite (.un .not (.bin .eq (.un .len V10) (.un .len V2)))
 (.ret (.cons (.n 1) .nil))
 (.ite (.un .not (.bin .eq (.un .len V11) (.un .len V4)))
 (.ret (.cons (.n 1) .nil))
 (.need Tt (.pre 25 (.cons V10 (.cons (.clo 27 [] .nil) .nil)))
 (.lt (.app 25 (.cons V10 (.cons (.clo 27 [] .nil) .nil)) 0) 1
 (.ite V14
 (.ret (.cons (.n 1) .nil))
 (.need Tt (.pre 25 (.cons V11 (.cons (.clo 27 [] .nil) .nil)))
 (.lt (.app 25 (.cons V11 (.cons (.clo 27 [] .nil) .nil)) 0) 1
 (.ite V15
 (.ret (.cons (.n 1) .nil))
 (.need Tt (.pre 11100 (.cons N0 (.cons V10 (.cons (.un .len V10) (.cons N0 (.cons V0 (.cons V1 (.cons V2 (.cons V3 (.cons V4 .nil))))))))))
 (.lt (.app 11100 (.cons N0 (.cons V10 (.cons (.un .len V10) (.cons N0 (.cons V0 (.cons V1 (.cons V2 (.cons V3 (.cons V4 .nil))))))))) 0) 3
 (.ite (.bin .eq V16 N0)
 (.ret (.cons V17 .nil))
 (.need Tt (.pre 30 (.cons V0 (.cons V1 (.cons V2 (.cons V3 (.cons V4 (.cons V8 (.cons V10 (.cons V11 .nil)))))))))
 (.lt (.app 30 (.cons V0 (.cons V1 (.cons V2 (.cons V3 (.cons V4 (.cons V8 (.cons V10 (.cons V11 .nil)))))))) 0) 1
 (.ite (.un .not V19)
 (.ret (.cons (.n 3) .nil))
 (.need Tt (.pre 31 (.cons V0 (.cons V1 (.cons V2 (.cons V3 (.cons V4 (.cons V10 (.cons V11 .nil))))))))
 (.lt (.app 31 (.cons V0 (.cons V1 (.cons V2 (.cons V3 (.cons V4 (.cons V10 (.cons V11 .nil))))))) 0) 1
 (.ite (.un .not V20)
 (.ret (.cons (.n 14) .nil))
 (.ret (.cons N0 .nil)))))))))))))))))))))))))
theorem e11 : (fnVT Try.prog (sgOf sg11) (ltOf lt11) S11 Try.f11 c11).slim (S11.ps.map fun p => p.2.length).sum [] = vt11 := by kernel_rfl
def S9 : Sig := ⟨[], [(false, [.bool])], [], none⟩
noncomputable def c9 : Code := Try.f9.body.getD .skip
theorem b9 : Try.f9.body = some c9 := body_some (by kernel_rfl)
theorem n9 : (Try.f9.name == "runtime.NumGoroutine") = false := by kernel_rfl
def sg9 : List (FuncId × Sig) := [(12, S12), (10, S10), (14, S14), (11, S11)]
def lt9 : List (Nat × LoopSig) := []
theorem k9 : (Code.loops c9).length = 0 := by kernel_rfl
def vt9 : VT :=
 (.need Tt (.c (.bin .lt (.n 1) (.un .len (.lcons (.cons (.str ⟨#[97]⟩) (.cons (.str ⟨#[]⟩) (.cons (.n 20000) (.cons (.n 10000) (.cons N0 (.cons .lnil .nil)))))) (.lcons (.cons (.str ⟨#[97]⟩) (.cons (.str ⟨#[]⟩) (.cons (.n 20000) (.cons (.n 10000) (.cons N0 (.cons .lnil .nil)))))) .lnil)))))
 (.need Tt (.c (.bin .lt (.n 1) (.un .len (.upd 0 (.lcons (.cons (.str ⟨#[97]⟩) (.cons (.str ⟨#[]⟩) (.cons (.n 20000) (.cons (.n 10000) (.cons N0 (.cons .lnil .nil)))))) (.lcons (.cons (.str ⟨#[97]⟩) (.cons (.str ⟨#[]⟩) (.cons (.n 20000) (.cons (.n 10000) (.cons N0 (.cons .lnil .nil)))))) .lnil)) (.n 1) (.cons (.str ⟨#[98]⟩) .nil)))))
 (.need Tt (.pre 12 (.cons (.str ⟨#[103]⟩) (.cons (.t false) (.cons (.upd 4 (.upd 0 (.lcons (.cons (.str ⟨#[97]⟩) (.cons (.str ⟨#[]⟩) (.cons (.n 20000) (.cons (.n 10000) (.cons N0 (.cons .lnil .nil)))))) (.lcons (.cons (.str ⟨#[97]⟩) (.cons (.str ⟨#[]⟩) (.cons (.n 20000) (.cons (.n 10000) (.cons N0 (.cons .lnil .nil)))))) .lnil)) (.n 1) (.cons (.str ⟨#[98]⟩) .nil)) (.n 1) (.cons (.n (-1)) .nil)) (.cons .lnil (.cons (.lcons (.cons (.str ⟨#[99]⟩) (.cons (.n (-1)) .nil)) .lnil) (.cons N0 (.cons (.n 10000) (.cons (.n 20000) (.cons (.n 5000) (.cons (.n 8) (.cons (.lcons (.cons N0 (.cons N0 (.cons (.n 20000) (.cons (.n 10000) .nil)))) (.lcons (.cons (.n 40000) (.cons N0 (.cons (.n 60000) (.cons (.n 10000) .nil)))) .lnil)) .nil))))))))))))
 (.lt (.app 12 (.cons (.str ⟨#[103]⟩) (.cons (.t false) (.cons (.upd 4 (.upd 0 (.lcons (.cons (.str ⟨#[97]⟩) (.cons (.str ⟨#[]⟩) (.cons (.n 20000) (.cons (.n 10000) (.cons N0 (.cons .lnil .nil)))))) (.lcons (.cons (.str ⟨#[97]⟩) (.cons (.str ⟨#[]⟩) (.cons (.n 20000) (.cons (.n 10000) (.cons N0 (.cons .lnil .nil)))))) .lnil)) (.n 1) (.cons (.str ⟨#[98]⟩) .nil)) (.n 1) (.cons (.n (-1)) .nil)) (.cons .lnil (.cons (.lcons (.cons (.str ⟨#[99]⟩) (.cons (.n (-1)) .nil)) .lnil) (.cons N0 (.cons (.n 10000) (.cons (.n 20000) (.cons (.n 5000) (.cons (.n 8) (.cons (.lcons (.cons N0 (.cons N0 (.cons (.n 20000) (.cons (.n 10000) .nil)))) (.lcons (.cons (.n 40000) (.cons N0 (.cons (.n 60000) (.cons (.n 10000) .nil)))) .lnil)) .nil))))))))))) 0) 2
 (.need Tt (.pre 10 (.cons (.str ⟨#[103]⟩) (.cons (.t false) (.cons (.upd 4 (.upd 0 (.lcons (.cons (.str ⟨#[97]⟩) (.cons (.str ⟨#[]⟩) (.cons (.n 20000) (.cons (.n 10000) (.cons N0 (.cons .lnil .nil)))))) (.lcons (.cons (.str ⟨#[97]⟩) (.cons (.str ⟨#[]⟩) (.cons (.n 20000) (.cons (.n 10000) (.cons N0 (.cons .lnil .nil)))))) .lnil)) (.n 1) (.cons (.str ⟨#[98]⟩) .nil)) (.n 1) (.cons (.n (-1)) .nil)) (.cons .lnil (.cons (.lcons (.cons (.str ⟨#[99]⟩) (.cons (.n (-1)) .nil)) .lnil) (.cons N0 (.cons (.n 10000) (.cons (.n 20000) (.cons (.n 5000) (.cons (.n 8) (.cons (.lcons (.cons N0 (.cons N0 (.cons (.n 20000) (.cons (.n 10000) .nil)))) (.lcons (.cons (.n 40000) (.cons N0 (.cons (.n 60000) (.cons (.n 10000) .nil)))) .lnil)) .nil))))))))))))
 (.lt (.app 10 (.cons (.str ⟨#[103]⟩) (.cons (.t false) (.cons (.upd 4 (.upd 0 (.lcons (.cons (.str ⟨#[97]⟩) (.cons (.str ⟨#[]⟩) (.cons (.n 20000) (.cons (.n 10000) (.cons N0 (.cons .lnil .nil)))))) (.lcons (.cons (.str ⟨#[97]⟩) (.cons (.str ⟨#[]⟩) (.cons (.n 20000) (.cons (.n 10000) (.cons N0 (.cons .lnil .nil)))))) .lnil)) (.n 1) (.cons (.str ⟨#[98]⟩) .nil)) (.n 1) (.cons (.n (-1)) .nil)) (.cons .lnil (.cons (.lcons (.cons (.str ⟨#[99]⟩) (.cons (.n (-1)) .nil)) .lnil) (.cons N0 (.cons (.n 10000) (.cons (.n 20000) (.cons (.n 5000) (.cons (.n 8) (.cons (.lcons (.cons N0 (.cons N0 (.cons (.n 20000) (.cons (.n 10000) .nil)))) (.lcons (.cons (.n 40000) (.cons N0 (.cons (.n 60000) (.cons (.n 10000) .nil)))) .lnil)) .nil))))))))))) 0) 3
 (.need Tt (.pre 14 (.cons V0 (.cons (.lcons (.cons N0 (.cons N0 (.cons (.n 30000) (.cons (.n 20000) .nil)))) .lnil) .nil)))
 (.lt (.app 14 (.cons V0 (.cons (.lcons (.cons N0 (.cons N0 (.cons (.n 30000) (.cons (.n 20000) .nil)))) .lnil) .nil)) 0) 1
 (.need (.ite (.ite (.ite (.ite V5 (.bin .eq V1 N0) (.t false)) (.bin .eq V4 N0) (.t false)) (.bin .eq (.un .len V2) (.n 2)) (.t false)) (.bin .eq (.un .len V3) (.n 1)) (.t false)) (.pre 11 (.cons (.str ⟨#[103]⟩) (.cons (.t false) (.cons (.upd 4 (.upd 0 (.lcons (.cons (.str ⟨#[97]⟩) (.cons (.str ⟨#[]⟩) (.cons (.n 20000) (.cons (.n 10000) (.cons N0 (.cons .lnil .nil)))))) (.lcons (.cons (.str ⟨#[97]⟩) (.cons (.str ⟨#[]⟩) (.cons (.n 20000) (.cons (.n 10000) (.cons N0 (.cons .lnil .nil)))))) .lnil)) (.n 1) (.cons (.str ⟨#[98]⟩) .nil)) (.n 1) (.cons (.n (-1)) .nil)) (.cons .lnil (.cons (.lcons (.cons (.str ⟨#[99]⟩) (.cons (.n (-1)) .nil)) .lnil) (.cons N0 (.cons (.n 10000) (.cons (.n 20000) (.cons (.n 5000) (.cons (.n 8) (.cons V2 (.cons V3 .nil)))))))))))))
 (.lt (.app 11 (.cons (.str ⟨#[103]⟩) (.cons (.t false) (.cons (.upd 4 (.upd 0 (.lcons (.cons (.str ⟨#[97]⟩) (.cons (.str ⟨#[]⟩) (.cons (.n 20000) (.cons (.n 10000) (.cons N0 (.cons .lnil .nil)))))) (.lcons (.cons (.str ⟨#[97]⟩) (.cons (.str ⟨#[]⟩) (.cons (.n 20000) (.cons (.n 10000) (.cons N0 (.cons .lnil .nil)))))) .lnil)) (.n 1) (.cons (.str ⟨#[98]⟩) .nil)) (.n 1) (.cons (.n (-1)) .nil)) (.cons .lnil (.cons (.lcons (.cons (.str ⟨#[99]⟩) (.cons (.n (-1)) .nil)) .lnil) (.cons N0 (.cons (.n 10000) (.cons (.n 20000) (.cons (.n 5000) (.cons (.n 8) (.cons V2 (.cons V3 .nil)))))))))))) 0) 1
 (.need (.ite (.ite (.ite (.ite (.ite V5 (.bin .eq V1 N0) (.t false)) (.bin .eq V4 N0) (.t false)) (.bin .eq (.un .len V2) (.n 2)) (.t false)) (.bin .eq (.un .len V3) (.n 1)) (.t false)) (.bin .eq V6 N0) (.t false)) (.c (.bin .lt N0 (.un .len V2)))
 (.need (.ite (.ite (.ite (.ite (.ite V5 (.bin .eq V1 N0) (.t false)) (.bin .eq V4 N0) (.t false)) (.bin .eq (.un .len V2) (.n 2)) (.t false)) (.bin .eq (.un .len V3) (.n 1)) (.t false)) (.bin .eq V6 N0) (.t false)) (.pre 11 (.cons (.str ⟨#[103]⟩) (.cons (.t false) (.cons (.upd 4 (.upd 0 (.lcons (.cons (.str ⟨#[97]⟩) (.cons (.str ⟨#[]⟩) (.cons (.n 20000) (.cons (.n 10000) (.cons N0 (.cons .lnil .nil)))))) (.lcons (.cons (.str ⟨#[97]⟩) (.cons (.str ⟨#[]⟩) (.cons (.n 20000) (.cons (.n 10000) (.cons N0 (.cons .lnil .nil)))))) .lnil)) (.n 1) (.cons (.str ⟨#[98]⟩) .nil)) (.n 1) (.cons (.n (-1)) .nil)) (.cons .lnil (.cons (.lcons (.cons (.str ⟨#[99]⟩) (.cons (.n (-1)) .nil)) .lnil) (.cons N0 (.cons (.n 10000) (.cons (.n 20000) (.cons (.n 5000) (.cons (.n 8) (.cons (.lcons (.cons (.sel 0 V2 N0) (.cons (.sel 1 V2 N0) (.cons (.sel 2 V2 N0) (.cons (.sel 3 V2 N0) .nil)))) (.lcons (.cons (.sel 0 V2 N0) (.cons (.sel 1 V2 N0) (.cons (.sel 2 V2 N0) (.cons (.sel 3 V2 N0) .nil)))) .lnil)) (.cons V3 .nil)))))))))))))
 (.lt (.app 11 (.cons (.str ⟨#[103]⟩) (.cons (.t false) (.cons (.upd 4 (.upd 0 (.lcons (.cons (.str ⟨#[97]⟩) (.cons (.str ⟨#[]⟩) (.cons (.n 20000) (.cons (.n 10000) (.cons N0 (.cons .lnil .nil)))))) (.lcons (.cons (.str ⟨#[97]⟩) (.cons (.str ⟨#[]⟩) (.cons (.n 20000) (.cons (.n 10000) (.cons N0 (.cons .lnil .nil)))))) .lnil)) (.n 1) (.cons (.str ⟨#[98]⟩) .nil)) (.n 1) (.cons (.n (-1)) .nil)) (.cons .lnil (.cons (.lcons (.cons (.str ⟨#[99]⟩) (.cons (.n (-1)) .nil)) .lnil) (.cons N0 (.cons (.n 10000) (.cons (.n 20000) (.cons (.n 5000) (.cons (.n 8) (.cons (.lcons (.cons (.sel 0 V2 N0) (.cons (.sel 1 V2 N0) (.cons (.sel 2 V2 N0) (.cons (.sel 3 V2 N0) .nil)))) (.lcons (.cons (.sel 0 V2 N0) (.cons (.sel 1 V2 N0) (.cons (.sel 2 V2 N0) (.cons (.sel 3 V2 N0) .nil)))) .lnil)) (.cons V3 .nil)))))))))))) 0) 1
 (.ret (.cons (.ite (.ite (.ite (.ite (.ite (.ite V5 (.bin .eq V1 N0) (.t false)) (.bin .eq V4 N0) (.t false)) (.bin .eq (.un .len V2) (.n 2)) (.t false)) (.bin .eq (.un .len V3) (.n 1)) (.t false)) (.bin .eq V6 N0) (.t false)) (.bin .eq V7 (.n 14)) (.t false)) .nil)))))))))))))))
theorem e9 : (fnVT Try.prog (sgOf sg9) (ltOf lt9) S9 Try.f9 c9).slim (S9.ps.map fun p => p.2.length).sum [] = vt9 := by kernel_rfl
def S3 : Sig := ⟨[(true, [.str, .bool, Ty0, Ty2, Ty5]), (true, [i6, i6, i6, i6, i6]), (false, [Ty3])], [(false, [.bool])], [], none⟩
noncomputable def c3 : Code := Try.f3.body.getD .skip
theorem b3 : Try.f3.body = some c3 := body_some (by kernel_rfl)
theorem n3 : (Try.f3.name == "runtime.NumGoroutine") = false := by kernel_rfl
def sg3 : List (FuncId × Sig) := [(8, S8), (9, S9), (10, S10), (11, S11)]
def L3_0 : LoopSig := ⟨10301, [],
   ⟨[.any, .any, (.c (.x Ty3 V0)), (.c (.ptr 0 0)), .any, .any, (.c (.x .bool V1)), (.c (.x Ty3 V2)), .any, .any, (.c (.x i6 V3)), .any, .any, .any, .any, .any, .any, .any, .any, .any, .any, .any, .any, .any, .any, .any, .any, .any, .any, .any, .any, .any, .any, .any, .any, .any, .any, .any, .any, .any, .any, .any, .any, .any, .any, .any, .any, .any, .any, .any, .any, .any, .any, .any, .any, .any, .any, .any, .any, .any, .any, .any, .any, .any, .any, .any, .any, .any, .any, .any, .any, .any, .any, .any, .any, .any, .any, .any, .any, .any, .any, .any, .any, .any, .any, .any, .any, .any, .any, .any, .any, .any, .any, .any, .any, .any, .any, .any, .any, .any, .any, .any, .any, .any, .any, .any, .any, .any, .any, .any, .any, .any, .any, .any, .any, .any, .any, .any, .any, .any, .any, .any, .any, .any, .any, .any, .any, .any, .any, .any],
    [some ⟨Tt, (.box 26 [(.x .str V4), (.x .bool V5), (.x Ty0 V6), (.x Ty2 V7), (.x Ty5 V8)] false)⟩]⟩,
   9, [1, 3], [55, 56, 57, 58, 11, 61, 62, 63, 66, 67, 68, 69, 70, 71, 72, 73, 74, 75, 76, 77, 78, 79, 80, 81, 82, 83, 84, 85, 86, 87, 88, 89, 90, 91, 92, 93, 94, 95, 96, 97, 98, 99, 100, 101, 102, 103, 104, 105, 106, 107, 108, 109, 110, 111, 112, 113, 114, 115, 116, 117, 118, 119, 120, 121, 122, 123, 124, 125, 126, 127, 128, 6, 64, 65, 59, 60, 10], [.ret, (.exit 0)], []⟩
def L3_1 : LoopSig := ⟨10300, [],
   ⟨[.any, .any, (.c (.x Ty3 V0)), (.c (.ptr 0 0)), .any, .any, (.c (.x .bool V1)), (.c (.x Ty3 V2)), .any, .any, (.c (.x i6 V3)), (.c (.x i6 V4)), .any, .any, .any, .any, .any, .any, .any, .any, .any, .any, .any, .any, .any, .any, .any, .any, .any, .any, .any, .any, .any, .any, .any, .any, .any, .any, .any, .any, .any, .any, .any, .any, .any, .any, .any, .any, .any, .any, .any, .any, .any, .any, .any, .any, .any, .any, .any, .any, .any, .any, .any, .any, .any, .any, .any, .any, .any, .any, .any, .any, .any, .any, .any, .any, .any, .any, .any, .any, .any, .any, .any, .any, .any, .any, .any, .any, .any, .any, .any, .any, .any, .any, .any, .any, .any, .any, .any, .any, .any, .any, .any, .any, .any, .any, .any, .any, .any, .any, .any, .any, .any, .any, .any, .any, .any, .any, .any, .any, .any, .any, .any, .any, .any, .any, .any, .any, .any, .any],
    [some ⟨Tt, (.box 26 [(.x .str V5), (.x .bool V6), (.x Ty0 V7), (.x Ty2 V8), (.x Ty5 V9)] false)⟩]⟩,
   10, [1, 4], [61, 62, 63, 66, 67, 68, 69, 70, 71, 72, 73, 74, 75, 76, 77, 78, 79, 80, 81, 82, 83, 84, 85, 86, 87, 88, 89, 90, 91, 92, 93, 94, 95, 96, 97, 98, 99, 100, 101, 102, 103, 104, 105, 106, 107, 108, 109, 110, 111, 112, 113, 114, 115, 116, 117, 118, 119, 120, 121, 122, 123, 124, 125, 126, 127, 128, 6, 64, 65, 11], [.ret, (.exit 2)], []⟩
def lt3 : List (Nat × LoopSig) := [(9, L3_0), (12, L3_1)]
theorem k3 : (Code.loops c3).length = 2 := by kernel_rfl
def vt3 : VT :=
 (.need Tt (.pre 8 (.cons V0 (.cons V1 (.cons V2 (.cons V3 (.cons V4 (.cons (.n 8) (.cons (.n 6) .nil))))))))
 (.lt (.app 8 (.cons V0 (.cons V1 (.cons V2 (.cons V3 (.cons V4 (.cons (.n 8) (.cons (.n 6) .nil))))))) 0) 1
 (.ite (.ite (.un .not V11) Tt (.bin .lt (.n 10) (.un .len V10)))
 (.need Tt (.pre 9 .nil)
 (.lt (.app 9 .nil 0) 1
 (.ret (.cons V12 .nil))))
 (.need Tt (.pre 10 (.cons V0 (.cons V1 (.cons V2 (.cons V3 (.cons V4 (.cons V5 (.cons V6 (.cons V7 (.cons V8 (.cons V9 (.cons V10 .nil))))))))))))
 (.lt (.app 10 (.cons V0 (.cons V1 (.cons V2 (.cons V3 (.cons V4 (.cons V5 (.cons V6 (.cons V7 (.cons V8 (.cons V9 (.cons V10 .nil))))))))))) 0) 3
 (.ite (.un .not (.bin .eq V14 N0))
 (.need (.ite (.bin .eq (.un .len V12) N0) (.bin .eq (.un .len V13) N0) (.t false)) (.pre 9 .nil)
 (.lt (.app 9 .nil 0) 1
 (.ret (.cons (.ite (.ite (.bin .eq (.un .len V12) N0) (.bin .eq (.un .len V13) N0) (.t false)) V15 (.t false)) .nil))))
 (.need (.bin .eq (.un .len V12) (.un .len V10)) (.pre 11 (.cons V0 (.cons V1 (.cons V2 (.cons V3 (.cons V4 (.cons V5 (.cons V6 (.cons V7 (.cons V8 (.cons V9 (.cons V12 (.cons V13 .nil)))))))))))))
 (.lt (.app 11 (.cons V0 (.cons V1 (.cons V2 (.cons V3 (.cons V4 (.cons V5 (.cons V6 (.cons V7 (.cons V8 (.cons V9 (.cons V12 (.cons V13 .nil)))))))))))) 0) 1
 (.ite (.ite (.un .not (.bin .eq (.un .len V12) (.un .len V10))) Tt (.un .not (.bin .eq V15 N0)))
 (.ret (.cons (.t false) .nil))
 (.need Tt (.pre 10301 (.cons V10 (.cons (.t false) (.cons V12 (.cons N0 (.cons V0 (.cons V1 (.cons V2 (.cons V3 (.cons V4 .nil))))))))))
 (.lt (.app 10301 (.cons V10 (.cons (.t false) (.cons V12 (.cons N0 (.cons V0 (.cons V1 (.cons V2 (.cons V3 (.cons V4 .nil))))))))) 0) 3
 (.ite (.bin .eq V16 N0)
 (.ret (.cons V17 .nil))
 (.need Tt (.pre 9 .nil)
 (.lt (.app 9 .nil 0) 1
 (.ret (.cons V19 .nil))))))))))))))))
theorem e3 : (fnVT Try.prog (sgOf sg3) (ltOf lt3) S3 Try.f3 c3).slim (S3.ps.map fun p => p.2.length).sum [] = vt3 := by kernel_rfl
def S109 : Sig := ⟨[(false, [(.int .u8)])], [(false, [.bool])], [], none⟩
noncomputable def c109 : Code := Try.f109.body.getD .skip
theorem b109 : Try.f109.body = some c109 := body_some (by kernel_rfl)
theorem n109 : (Try.f109.name == "runtime.NumGoroutine") = false := by kernel_rfl
def sg109 : List (FuncId × Sig) := []
def lt109 : List (Nat × LoopSig) := []
theorem k109 : (Code.loops c109).length = 0 := by kernel_rfl
def vt109 : VT :=
 (.ret (.cons (.ite (.ite (.ite (.bin .le (.n 97) V0) (.bin .le V0 (.n 122)) (.t false)) Tt (.ite (.bin .le (.n 65) V0) (.bin .le V0 (.n 90)) (.t false))) Tt (.bin .eq V0 (.n 95))) .nil))
theorem e109 : (fnVT Try.prog (sgOf sg109) (ltOf lt109) S109 Try.f109 c109).slim (S109.ps.map fun p => p.2.length).sum [] = vt109 := by kernel_rfl
def T109 : FuncId → List D → List D := tabOf []
def fn109 (ρ : List D) : List D := vt109.val T109 ρ
theorem m109 : Meets Try.prog 109 S109 (fun _ => True) fn109 := meets_easy (sgl := sg109) (Φ := T109) mixed ((fun _ h => nomatch h)) Try.func109 b109 n109 k109 e109 (by kernel_rfl)
def S110 : Sig := ⟨[(false, [(.int .u8)])], [(false, [.bool])], [], none⟩
noncomputable def c110 : Code := Try.f110.body.getD .skip
theorem b110 : Try.f110.body = some c110 := body_some (by kernel_rfl)
theorem n110 : (Try.f110.name == "runtime.NumGoroutine") = false := by kernel_rfl
def sg110 : List (FuncId × Sig) := []
def lt110 : List (Nat × LoopSig) := []
theorem k110 : (Code.loops c110).length = 0 := by kernel_rfl
def vt110 : VT :=
 (.ret (.cons (.ite (.bin .le (.n 48) V0) (.bin .le V0 (.n 57)) (.t false)) .nil))
theorem e110 : (fnVT Try.prog (sgOf sg110) (ltOf lt110) S110 Try.f110 c110).slim (S110.ps.map fun p => p.2.length).sum [] = vt110 := by kernel_rfl
def T110 : FuncId → List D → List D := tabOf []
def fn110 (ρ : List D) : List D := vt110.val T110 ρ
theorem m110 : Meets Try.prog 110 S110 (fun _ => True) fn110 := meets_easy (sgl := sg110) (Φ := T110) mixed ((fun _ h => nomatch h)) Try.func110 b110 n110 k110 e110 (by kernel_rfl)
def S91 : Sig := ⟨[(false, [.str])], [(false, [i6])], [], none⟩
noncomputable def c91 : Code := Try.f91.body.getD .skip
theorem b91 : Try.f91.body = some c91 := body_some (by kernel_rfl)
theorem n91 : (Try.f91.name == "runtime.NumGoroutine") = false := by kernel_rfl
def sg91 : List (FuncId × Sig) := [(109, S109), (110, S110)]
def L91_0 : LoopSig := ⟨19100, [],
   ⟨[(.c (.x .str V0)), .any, .any, (.c (.x i6 V1)), .any, .any, .any, .any, .any, .any, .any, .any, .any, .any, .any, .any, .any, .any, .any, .any, .any, .any, .any, .any, .any, .any, .any],
    []⟩,
   2, [1], [4, 5, 6, 7, 8, 9, 10, 11, 12, 13, 14, 15, 16, 17, 18, 19, 20, 21, 22, 23, 24, 25, 3], [(.exit 0)], []⟩
def lt91 : List (Nat × LoopSig) := [(2, L91_0)]
theorem k91 : (Code.loops c91).length = 1 := by kernel_rfl
noncomputable def lb91_0 : Code := (Code.loops c91).getD 0 .skip
def rt91_0 : VT :=
 (.need (.bin .lt V1 (.un .slen V0)) (.c (.bin .le N0 V1))
 (.need (.bin .lt V1 (.un .slen V0)) (.c (.bin .lt V1 (.un .slen V0)))
 (.need (.bin .lt V1 (.un .slen V0)) (.pre 109 (.cons (.bin .sidx V0 V1) .nil))
 (.lt (.app 109 (.cons (.bin .sidx V0 V1) .nil) 0) 1
 (.need (.ite (.ite (.bin .lt V1 (.un .slen V0)) (.un .not V2) (.t false)) (.bin .lt N0 V1) (.t false)) (.c (.bin .le N0 V1))
 (.need (.ite (.ite (.bin .lt V1 (.un .slen V0)) (.un .not V2) (.t false)) (.bin .lt N0 V1) (.t false)) (.c (.bin .lt V1 (.un .slen V0)))
 (.need (.ite (.ite (.bin .lt V1 (.un .slen V0)) (.un .not V2) (.t false)) (.bin .lt N0 V1) (.t false)) (.pre 110 (.cons (.bin .sidx V0 V1) .nil))
 (.lt (.app 110 (.cons (.bin .sidx V0 V1) .nil) 0) 1
 (.ite (.ite (.bin .lt V1 (.un .slen V0)) (.ite V2 Tt (.ite (.bin .lt N0 V1) V3 (.t false))) (.t false))
 (.ret (.cons (.n (-1)) (.cons (.bin (.add .i64) V1 (.n 1)) .nil)))
 (.ret (.cons N0 (.cons V1 .nil))))))))))))
theorem le91_0 : (loopVT Try.prog (sgOf sg91) (ltOf lt91) L91_0 lb91_0).slim L91_0.nv [] = rt91_0 := by kernel_rfl
theorem lf91_0 : (firstRegion lb91_0).bind (ltOf lt91) = some L91_0 := by kernel_rfl
theorem lk91_0 : (Code.loops lb91_0).length = 0 := by kernel_rfl
def vt91 : VT :=
 (.need Tt (.pre 19100 (.cons V0 (.cons N0 .nil)))
 (.lt (.app 19100 (.cons V0 (.cons N0 .nil)) 0) 2
 (.ret (.cons V2 .nil))))
theorem e91 : (fnVT Try.prog (sgOf sg91) (ltOf lt91) S91 Try.f91 c91).slim (S91.ps.map fun p => p.2.length).sum [] = vt91 := by kernel_rfl
def S92 : Sig := ⟨[(false, [.str])], [(false, [.bool])], [], none⟩
noncomputable def c92 : Code := Try.f92.body.getD .skip
theorem b92 : Try.f92.body = some c92 := body_some (by kernel_rfl)
theorem n92 : (Try.f92.name == "runtime.NumGoroutine") = false := by kernel_rfl
def sg92 : List (FuncId × Sig) := []
def lt92 : List (Nat × LoopSig) := []
theorem k92 : (Code.loops c92).length = 0 := by kernel_rfl
def vt92 : VT :=
 (.ite (.bin .seq V0 (.str ⟨#[100, 105, 103, 114, 97, 112, 104]⟩))
 (.ret (.cons Tt .nil))
 (.ite (.bin .seq V0 (.str ⟨#[103, 114, 97, 112, 104]⟩))
 (.ret (.cons Tt .nil))
 (.ite (.bin .seq V0 (.str ⟨#[110, 111, 100, 101]⟩))
 (.ret (.cons Tt .nil))
 (.ite (.bin .seq V0 (.str ⟨#[101, 100, 103, 101]⟩))
 (.ret (.cons Tt .nil))
 (.ite (.bin .seq V0 (.str ⟨#[115, 101, 116]⟩))
 (.ret (.cons Tt .nil))
 (.ite (.bin .seq V0 (.str ⟨#[99, 108, 117, 115, 116, 101, 114]⟩))
 (.ret (.cons Tt .nil))
 (.ret (.cons (.t false) .nil))))))))
theorem e92 : (fnVT Try.prog (sgOf sg92) (ltOf lt92) S92 Try.f92 c92).slim (S92.ps.map fun p => p.2.length).sum [] = vt92 := by kernel_rfl
def T92 : FuncId → List D → List D := tabOf []
def fn92 (ρ : List D) : List D := vt92.val T92 ρ
theorem m92 : Meets Try.prog 92 S92 (fun _ => True) fn92 := meets_easy (sgl := sg92) (Φ := T92) mixed ((fun _ h => nomatch h)) Try.func92 b92 n92 k92 e92 (by kernel_rfl)
def S68 : Sig := ⟨[(false, [.str])], [(false, [.bool])], [], none⟩
noncomputable def c68 : Code := Try.f68.body.getD .skip
theorem b68 : Try.f68.body = some c68 := body_some (by kernel_rfl)
theorem n68 : (Try.f68.name == "runtime.NumGoroutine") = false := by kernel_rfl
def sg68 : List (FuncId × Sig) := [(91, S91), (92, S92)]
def lt68 : List (Nat × LoopSig) := []
theorem k68 : (Code.loops c68).length = 0 := by kernel_rfl
def vt68 : VT :=
 (.need (.un .not (.bin .seq V0 (.str ⟨#[]⟩))) (.pre 91 (.cons V0 .nil))
 (.lt (.app 91 (.cons V0 .nil) 0) 1
 (.need (.ite (.ite (.un .not (.bin .seq V0 (.str ⟨#[]⟩))) (.bin .eq V1 (.un .slen V0)) (.t false)) (.bin .le (.un .slen V0) (.n 16)) (.t false)) (.pre 92 (.cons V0 .nil))
 (.lt (.app 92 (.cons V0 .nil) 0) 1
 (.ret (.cons (.ite (.ite (.ite (.un .not (.bin .seq V0 (.str ⟨#[]⟩))) (.bin .eq V1 (.un .slen V0)) (.t false)) (.bin .le (.un .slen V0) (.n 16)) (.t false)) (.un .not V2) (.t false)) .nil))))))
theorem e68 : (fnVT Try.prog (sgOf sg68) (ltOf lt68) S68 Try.f68 c68).slim (S68.ps.map fun p => p.2.length).sum [] = vt68 := by kernel_rfl
def S93 : Sig := ⟨[(true, [.str, .bool, Ty0, Ty2, Ty5]), (false, [.str])], [(false, [i6])], [], none⟩
noncomputable def c93 : Code := Try.f93.body.getD .skip
theorem b93 : Try.f93.body = some c93 := body_some (by kernel_rfl)
theorem n93 : (Try.f93.name == "runtime.NumGoroutine") = false := by kernel_rfl
def sg93 : List (FuncId × Sig) := []
def L93_0 : LoopSig := ⟨19300, [],
   ⟨[.any, (.c (.x .str V0)), (.c (.ptr 0 0)), .any, (.c (.x i6 V1)), (.c (.x i6 V2)), .any, .any, .any, .any, .any, .any, .any, .any, .any, .any, .any, .any, .any, .any, .any, .any],
    [some ⟨Tt, (.box 26 [(.x .str V3), (.x .bool V4), (.x Ty0 V5), (.x Ty2 V6), (.x Ty5 V7)] false)⟩]⟩,
   8, [1, 2], [6, 7, 8, 9, 10, 13, 14, 15, 16, 17, 18, 19, 20, 21, 4, 11, 12, 5], [.ret, (.exit 0)], []⟩
def lt93 : List (Nat × LoopSig) := [(2, L93_0)]
theorem k93 : (Code.loops c93).length = 1 := by kernel_rfl
noncomputable def lb93_0 : Code := (Code.loops c93).getD 0 .skip
def rt93_0 : VT :=
 (.ite (.bin .lt V2 (.un .len V5))
 (.need Tt (.c (.bin .le N0 V2))
 (.ite (.bin .seq (.sel 0 V5 V2) V0)
 (.ret (.cons N0 (.cons V2 (.cons V2 .nil))))
 (.ret (.cons (.n (-1)) (.cons V1 (.cons (.bin (.add .i64) V2 (.n 1)) .nil))))))
 (.ret (.cons (.n 1) (.cons V1 (.cons V2 .nil)))))
theorem le93_0 : (loopVT Try.prog (sgOf sg93) (ltOf lt93) L93_0 lb93_0).slim L93_0.nv [] = rt93_0 := by kernel_rfl
theorem lf93_0 : (firstRegion lb93_0).bind (ltOf lt93) = some L93_0 := by kernel_rfl
theorem lk93_0 : (Code.loops lb93_0).length = 0 := by kernel_rfl
def vt93 : VT :=
 (.need Tt (.pre 19300 (.cons V5 (.cons N0 (.cons N0 (.cons V0 (.cons V1 (.cons V2 (.cons V3 (.cons V4 .nil)))))))))
 (.lt (.app 19300 (.cons V5 (.cons N0 (.cons N0 (.cons V0 (.cons V1 (.cons V2 (.cons V3 (.cons V4 .nil)))))))) 0) 3
 (.ite (.bin .eq V6 N0)
 (.ret (.cons V7 .nil))
 (.ret (.cons (.n (-1)) .nil)))))
theorem e93 : (fnVT Try.prog (sgOf sg93) (ltOf lt93) S93 Try.f93 c93).slim (S93.ps.map fun p => p.2.length).sum [] = vt93 := by kernel_rfl
def S94 : Sig := ⟨[(false, [.str])], [(false, [.bool])], [], none⟩
noncomputable def c94 : Code := Try.f94.body.getD .skip
theorem b94 : Try.f94.body = some c94 := body_some (by kernel_rfl)
theorem n94 : (Try.f94.name == "runtime.NumGoroutine") = false := by kernel_rfl
def sg94 : List (FuncId × Sig) := []
def L94_0 : LoopSig := ⟨19400, [],
   ⟨[(.c (.x .str V0)), .any, (.c (.x .bool V1)), (.c (.x i6 V2)), .any, .any, .any, .any, .any, .any, .any, .any, .any, .any, .any, .any, .any, .any, .any, .any],
    []⟩,
   3, [1, 2], [4, 5, 6, 7, 10, 11, 12, 13, 14, 15, 16, 17, 18, 19, 2, 8, 9, 3], [.ret, (.exit 0)], []⟩
def lt94 : List (Nat × LoopSig) := [(2, L94_0)]
theorem k94 : (Code.loops c94).length = 1 := by kernel_rfl
noncomputable def lb94_0 : Code := (Code.loops c94).getD 0 .skip
def rt94_0 : VT :=
 (.ite (.bin .lt V2 (.un .slen V0))
 (.need Tt (.c (.bin .le N0 V2))
 (.ite (.ite (.bin .lt (.bin .sidx V0 V2) (.n 32)) Tt (.bin .lt (.n 126) (.bin .sidx V0 V2)))
 (.ret (.cons N0 (.cons (.t false) (.cons V2 .nil))))
 (.ret (.cons (.n (-1)) (.cons V1 (.cons (.bin (.add .i64) V2 (.n 1)) .nil))))))
 (.ret (.cons (.n 1) (.cons V1 (.cons V2 .nil)))))
theorem le94_0 : (loopVT Try.prog (sgOf sg94) (ltOf lt94) L94_0 lb94_0).slim L94_0.nv [] = rt94_0 := by kernel_rfl
theorem lf94_0 : (firstRegion lb94_0).bind (ltOf lt94) = some L94_0 := by kernel_rfl
theorem lk94_0 : (Code.loops lb94_0).length = 0 := by kernel_rfl
def vt94 : VT :=
 (.need Tt (.pre 19400 (.cons V0 (.cons (.t false) (.cons N0 .nil))))
 (.lt (.app 19400 (.cons V0 (.cons (.t false) (.cons N0 .nil))) 0) 3
 (.ite (.bin .eq V1 N0)
 (.ret (.cons V2 .nil))
 (.ret (.cons Tt .nil)))))
theorem e94 : (fnVT Try.prog (sgOf sg94) (ltOf lt94) S94 Try.f94 c94).slim (S94.ps.map fun p => p.2.length).sum [] = vt94 := by kernel_rfl
def S95 : Sig := ⟨[(false, [Ty4])], [(false, [i6])], [], none⟩
noncomputable def c95 : Code := Try.f95.body.getD .skip
theorem b95 : Try.f95.body = some c95 := body_some (by kernel_rfl)
theorem n95 : (Try.f95.name == "runtime.NumGoroutine") = false := by kernel_rfl
def sg95 : List (FuncId × Sig) := [(68, S68)]
def L95_0 : LoopSig := ⟨19501, [],
   ⟨[(.c (.x Ty4 V0)), .any, (.c (.x i6 V1)), (.c (.x i6 V2)), .any, .any, .any, .any, .any, .any, .any, .any, .any, .any, .any, .any, .any, .any, .any, .any, .any, .any, .any, .any, .any, .any, .any, .any, .any, .any, .any, .any, .any, .any, .any, .any, .any, .any, .any, .any, .any, .any, .any, .any, .any, .any, .any, .any],
    []⟩,
   3, [1, 2], [5, 6, 7, 8, 11, 12, 13, 14, 15, 16, 17, 2, 4, 18, 19, 20, 23, 24, 25, 26, 27, 28, 29, 30, 31, 32, 33, 21, 22, 34, 35, 36, 37, 38, 39, 40, 41, 42, 43, 44, 45, 46, 47, 9, 10, 3], [.ret, (.exit 0)], []⟩
def L95_1 : LoopSig := ⟨19500, [],
   ⟨[(.c (.x Ty4 V0)), .any, (.c (.x i6 V1)), (.c (.x i6 V2)), (.c (.x i6 V3)), .any, .any, .any, .any, .any, .any, .any, .any, .any, .any, .any, .any, .any, .any, .any, .any, .any, .any, .any, .any, .any, .any, .any, .any, .any, .any, .any, .any, .any, .any, .any, .any, .any, .any, .any, .any, .any, .any, .any, .any, .any, .any, .any],
    []⟩,
   4, [1, 3], [18, 19, 20, 23, 24, 25, 26, 27, 28, 29, 30, 31, 32, 33, 2, 21, 22, 4], [.ret, (.exit 2)], []⟩
def lt95 : List (Nat × LoopSig) := [(2, L95_0), (7, L95_1)]
theorem k95 : (Code.loops c95).length = 2 := by kernel_rfl
noncomputable def lb95_0 : Code := (Code.loops c95).getD 0 .skip
noncomputable def lb95_1 : Code := (Code.loops c95).getD 1 .skip
def rt95_0 : VT :=
 (.ite (.bin .lt V2 (.un .len V0))
 (.need Tt (.c (.bin .le N0 V2))
 (.need Tt (.pre 68 (.cons (.sel 0 V0 V2) .nil))
 (.lt (.app 68 (.cons (.sel 0 V0 V2) .nil) 0) 1
 (.ite (.un .not V3)
 (.ret (.cons N0 (.cons (.n 5) (.cons V2 .nil))))
 (.need Tt (.pre 19500 (.cons V0 (.cons V1 (.cons V2 (.cons N0 .nil)))))
 (.lt (.app 19500 (.cons V0 (.cons V1 (.cons V2 (.cons N0 .nil)))) 0) 3
 (.ite (.bin .eq V4 N0)
 (.ret (.cons N0 (.cons V5 (.cons V2 .nil))))
 (.ite (.ite (.bin .lt (.sel 1 V0 V2) N0) Tt (.bin .lt (.n 3) (.sel 1 V0 V2)))
 (.ret (.cons N0 (.cons (.n 7) (.cons V2 .nil))))
 (.ret (.cons (.n (-1)) (.cons V5 (.cons (.bin (.add .i64) V2 (.n 1)) .nil))))))))))))
 (.ret (.cons (.n 1) (.cons V1 (.cons V2 .nil)))))
theorem le95_0 : (loopVT Try.prog (sgOf sg95) (ltOf lt95) L95_0 lb95_0).slim L95_0.nv [] = rt95_0 := by kernel_rfl
theorem lf95_0 : (firstRegion lb95_0).bind (ltOf lt95) = some L95_0 := by kernel_rfl
theorem lk95_0 : (Code.loops lb95_0).length = 1 := by kernel_rfl
theorem li95_0_0 : (Code.loops lb95_0).getD 0 .skip = lb95_1 := by kernel_rfl
def rt95_1 : VT :=
 (.ite (.bin .lt V3 V2)
 (.need Tt (.c (.bin .le N0 V3))
 (.need Tt (.c (.bin .lt V3 (.un .len V0)))
 (.need Tt (.c (.bin .le N0 V2))
 (.need Tt (.c (.bin .lt V2 (.un .len V0)))
 (.ite (.bin .seq (.sel 0 V0 V3) (.sel 0 V0 V2))
 (.ret (.cons N0 (.cons (.n 6) (.cons V3 .nil))))
 (.ret (.cons (.n (-1)) (.cons V1 (.cons (.bin (.add .i64) V3 (.n 1)) .nil)))))))))
 (.ret (.cons (.n 1) (.cons V1 (.cons V3 .nil)))))
theorem le95_1 : (loopVT Try.prog (sgOf sg95) (ltOf lt95) L95_1 lb95_1).slim L95_1.nv [] = rt95_1 := by kernel_rfl
theorem lf95_1 : (firstRegion lb95_1).bind (ltOf lt95) = some L95_1 := by kernel_rfl
theorem lk95_1 : (Code.loops lb95_1).length = 0 := by kernel_rfl
def vt95 : VT :=
 (.need Tt (.pre 19501 (.cons V0 (.cons N0 (.cons N0 .nil))))
 (.lt (.app 19501 (.cons V0 (.cons N0 (.cons N0 .nil))) 0) 3
 (.ite (.bin .eq V1 N0)
 (.ret (.cons V2 .nil))
 (.ret (.cons N0 .nil)))))
theorem e95 : (fnVT Try.prog (sgOf sg95) (ltOf lt95) S95 Try.f95 c95).slim (S95.ps.map fun p => p.2.length).sum [] = vt95 := by kernel_rfl
def S69 : Sig := ⟨[(true, [.str, .bool, Ty0, Ty2, Ty5]), (false, [i6])], [(false, [i6])], [], none⟩
noncomputable def c69 : Code := Try.f69.body.getD .skip
theorem b69 : Try.f69.body = some c69 := body_some (by kernel_rfl)
theorem n69 : (Try.f69.name == "runtime.NumGoroutine") = false := by kernel_rfl
def sg69 : List (FuncId × Sig) := [(68, S68), (93, S93), (94, S94), (95, S95)]
def lt69 : List (Nat × LoopSig) := []
theorem k69 : (Code.loops c69).length = 0 := by kernel_rfl
def vt69 : VT :=
 (.need Tt (.c (.bin .le N0 V5))
 (.need Tt (.c (.bin .lt V5 (.un .len V2)))
 (.need Tt (.pre 68 (.cons (.sel 0 V2 V5) .nil))
 (.lt (.app 68 (.cons (.sel 0 V2 V5) .nil) 0) 1
 (.ite (.un .not V6)
 (.ret (.cons (.n 5) .nil))
 (.need Tt (.pre 93 (.cons V0 (.cons V1 (.cons V2 (.cons V3 (.cons V4 (.cons (.sel 0 V2 V5) .nil)))))))
 (.lt (.app 93 (.cons V0 (.cons V1 (.cons V2 (.cons V3 (.cons V4 (.cons (.sel 0 V2 V5) .nil)))))) 0) 1
 (.ite (.un .not (.bin .eq V7 V5))
 (.ret (.cons (.n 6) .nil))
 (.ite (.bin .lt (.n 32) (.un .slen (.sel 1 V2 V5)))
 (.ret (.cons (.n 2) .nil))
 (.need Tt (.pre 94 (.cons (.sel 1 V2 V5) .nil))
 (.lt (.app 94 (.cons (.sel 1 V2 V5) .nil) 0) 1
 (.ite (.un .not V8)
 (.ret (.cons (.n 7) .nil))
 (.ite (.ite (.ite (.ite (.ite (.ite (.bin .lt (.sel 2 V2 V5) (.n 1)) Tt (.bin .lt (.n 1048576) (.sel 2 V2 V5))) Tt (.bin .lt (.sel 3 V2 V5) (.n 1))) Tt (.bin .lt (.n 1048576) (.sel 3 V2 V5))) Tt (.bin .lt (.sel 4 V2 V5) (.n (-1)))) Tt (.bin .le (.un .len V4) (.sel 4 V2 V5)))
 (.ret (.cons (.n 3) .nil))
 (.ite (.bin .lt (.n 8) (.un .len (.sel 5 V2 V5)))
 (.ret (.cons (.n 2) .nil))
 (.need Tt (.pre 95 (.cons (.sel 5 V2 V5) .nil))
 (.lt (.app 95 (.cons (.sel 5 V2 V5) .nil) 0) 1
 (.ret (.cons V9 .nil))))))))))))))))))
theorem e69 : (fnVT Try.prog (sgOf sg69) (ltOf lt69) S69 Try.f69 c69).slim (S69.ps.map fun p => p.2.length).sum [] = vt69 := by kernel_rfl
def S96 : Sig := ⟨[(true, [.str, .bool, Ty0, Ty2, Ty5]), (false, [i6])], [(false, [i6])], [], none⟩
noncomputable def c96 : Code := Try.f96.body.getD .skip
theorem b96 : Try.f96.body = some c96 := body_some (by kernel_rfl)
theorem n96 : (Try.f96.name == "runtime.NumGoroutine") = false := by kernel_rfl
def sg96 : List (FuncId × Sig) := []
def L96_0 : LoopSig := ⟨19600, [],
   ⟨[.any, (.c (.x i6 V0)), (.c (.ptr 0 0)), .any, .any, (.c (.x i6 V1)), .any, .any, .any, .any, .any, .any, .any, .any, .any, .any, .any],
    [some ⟨Tt, (.box 26 [(.x .str V2), (.x .bool V3), (.x Ty0 V4), (.x Ty2 V5), (.x Ty5 V6)] false)⟩]⟩,
   7, [0, 1], [6, 7, 8, 9, 5, 10, 11, 12, 13, 14, 15, 1], [(.exit 0)], []⟩
def lt96 : List (Nat × LoopSig) := [(2, L96_0)]
theorem k96 : (Code.loops c96).length = 1 := by kernel_rfl
noncomputable def lb96_0 : Code := (Code.loops c96).getD 0 .skip
def rt96_0 : VT :=
 (.ite (.bin .le N0 V0)
 (.need Tt (.c (.bin .lt V0 (.un .len V6)))
 (.ret (.cons (.n (-1)) (.cons (.sel 1 V6 V0) (.cons (.bin (.add .i64) V1 (.n 1)) .nil)))))
 (.ret (.cons N0 (.cons V0 (.cons V1 .nil)))))
theorem le96_0 : (loopVT Try.prog (sgOf sg96) (ltOf lt96) L96_0 lb96_0).slim L96_0.nv [] = rt96_0 := by kernel_rfl
theorem lf96_0 : (firstRegion lb96_0).bind (ltOf lt96) = some L96_0 := by kernel_rfl
theorem lk96_0 : (Code.loops lb96_0).length = 0 := by kernel_rfl
def vt96 : VT :=
 (.need Tt (.pre 19600 (.cons V5 (.cons N0 (.cons V0 (.cons V1 (.cons V2 (.cons V3 (.cons V4 .nil))))))))
 (.lt (.app 19600 (.cons V5 (.cons N0 (.cons V0 (.cons V1 (.cons V2 (.cons V3 (.cons V4 .nil))))))) 0) 3
 (.ret (.cons V8 .nil))))
theorem e96 : (fnVT Try.prog (sgOf sg96) (ltOf lt96) S96 Try.f96 c96).slim (S96.ps.map fun p => p.2.length).sum [] = vt96 := by kernel_rfl
def S70 : Sig := ⟨[(true, [.str, .bool, Ty0, Ty2, Ty5]), (false, [i6])], [(false, [i6])], [], none⟩
noncomputable def c70 : Code := Try.f70.body.getD .skip
theorem b70 : Try.f70.body = some c70 := body_some (by kernel_rfl)
theorem n70 : (Try.f70.name == "runtime.NumGoroutine") = false := by kernel_rfl
def sg70 : List (FuncId × Sig) := [(68, S68), (93, S93), (96, S96)]
def L70_0 : LoopSig := ⟨17000, [],
   ⟨[.any, (.c (.x i6 V0)), (.c (.ptr 0 0)), .any, (.c (.x i6 V1)), (.c (.ptr 1 0)), (.c (.x i6 V2)), .any, .any, .any, .any, .any, .any, .any, .any, .any, .any, .any, .any, .any, .any, .any, .any, .any, .any, .any, .any, .any, .any, .any, .any, .any, .any, .any, .any, .any, .any, .any, .any, .any, .any, .any, .any, .any, .any, .any, .any, .any],
    [some ⟨Tt, (.box 26 [(.x .str V3), (.x .bool V4), (.x Ty0 V5), (.x Ty2 V6), (.x Ty5 V7)] false)⟩, some ⟨Tt, (.box 50 [(.x .str V8), (.x i6 V9)] false)⟩]⟩,
   10, [1, 2], [16, 17, 18, 21, 22, 23, 24, 25, 26, 27, 28, 29, 4, 19, 20, 6], [.ret, (.exit 0)], []⟩
def lt70 : List (Nat × LoopSig) := [(5, L70_0)]
theorem k70 : (Code.loops c70).length = 1 := by kernel_rfl
noncomputable def lb70_0 : Code := (Code.loops c70).getD 0 .skip
def rt70_0 : VT :=
 (.ite (.bin .lt V2 V0)
 (.need Tt (.c (.bin .le N0 V2))
 (.need Tt (.c (.bin .lt V2 (.un .len V7)))
 (.ite (.bin .seq (.sel 0 V7 V2) V8)
 (.ret (.cons N0 (.cons (.n 6) (.cons V2 .nil))))
 (.ret (.cons (.n (-1)) (.cons V1 (.cons (.bin (.add .i64) V2 (.n 1)) .nil)))))))
 (.ret (.cons (.n 1) (.cons V1 (.cons V2 .nil)))))
theorem le70_0 : (loopVT Try.prog (sgOf sg70) (ltOf lt70) L70_0 lb70_0).slim L70_0.nv [] = rt70_0 := by kernel_rfl
theorem lf70_0 : (firstRegion lb70_0).bind (ltOf lt70) = some L70_0 := by kernel_rfl
theorem lk70_0 : (Code.loops lb70_0).length = 0 := by kernel_rfl
def vt70 : VT :=
 (.need Tt (.c (.bin .le N0 V5))
 (.need Tt (.c (.bin .lt V5 (.un .len V4)))
 (.need Tt (.pre 68 (.cons (.sel 0 V4 V5) .nil))
 (.lt (.app 68 (.cons (.sel 0 V4 V5) .nil) 0) 1
 (.ite (.un .not V6)
 (.ret (.cons (.n 5) .nil))
 (.need Tt (.pre 17000 (.cons V5 (.cons N0 (.cons N0 (.cons V0 (.cons V1 (.cons V2 (.cons V3 (.cons V4 (.cons (.sel 0 V4 V5) (.cons (.sel 1 V4 V5) .nil)))))))))))
 (.lt (.app 17000 (.cons V5 (.cons N0 (.cons N0 (.cons V0 (.cons V1 (.cons V2 (.cons V3 (.cons V4 (.cons (.sel 0 V4 V5) (.cons (.sel 1 V4 V5) .nil)))))))))) 0) 3
 (.ite (.bin .eq V7 N0)
 (.ret (.cons V8 .nil))
 (.need Tt (.pre 93 (.cons V0 (.cons V1 (.cons V2 (.cons V3 (.cons V4 (.cons (.sel 0 V4 V5) .nil)))))))
 (.lt (.app 93 (.cons V0 (.cons V1 (.cons V2 (.cons V3 (.cons V4 (.cons (.sel 0 V4 V5) .nil)))))) 0) 1
 (.ite (.bin .le N0 V10)
 (.ret (.cons (.n 6) .nil))
 (.ite (.ite (.bin .lt (.sel 1 V4 V5) (.n (-1))) Tt (.bin .le V5 (.sel 1 V4 V5)))
 (.ret (.cons (.n 3) .nil))
 (.need Tt (.pre 96 (.cons V0 (.cons V1 (.cons V2 (.cons V3 (.cons V4 (.cons V5 .nil)))))))
 (.lt (.app 96 (.cons V0 (.cons V1 (.cons V2 (.cons V3 (.cons V4 (.cons V5 .nil)))))) 0) 1
 (.ite (.bin .lt (.n 6) V11)
 (.ret (.cons (.n 2) .nil))
 (.ret (.cons N0 .nil)))))))))))))))))
theorem e70 : (fnVT Try.prog (sgOf sg70) (ltOf lt70) S70 Try.f70 c70).slim (S70.ps.map fun p => p.2.length).sum [] = vt70 := by kernel_rfl
def S71 : Sig := ⟨[(true, [.str, .bool, Ty0, Ty2, Ty5]), (true, [i6, i6, i6, i6, .str, i6, i6])], [(false, [i6])], [], none⟩
noncomputable def c71 : Code := Try.f71.body.getD .skip
theorem b71 : Try.f71.body = some c71 := body_some (by kernel_rfl)
theorem n71 : (Try.f71.name == "runtime.NumGoroutine") = false := by kernel_rfl
def sg71 : List (FuncId × Sig) := [(94, S94)]
def lt71 : List (Nat × LoopSig) := []
theorem k71 : (Code.loops c71).length = 0 := by kernel_rfl
def vt71 : VT :=
 (.ite (.ite (.ite (.ite (.bin .lt V5 N0) Tt (.bin .le (.un .len V2) V5)) Tt (.bin .lt V6 N0)) Tt (.bin .le (.un .len V2) V6))
 (.ret (.cons (.n 3) .nil))
 (.need (.un .not (.bin .lt V7 (.n (-1)))) (.c (.bin .le N0 V5))
 (.need (.un .not (.bin .lt V7 (.n (-1)))) (.c (.bin .lt V5 (.un .len V2)))
 (.need (.un .not (.ite (.ite (.bin .lt V7 (.n (-1))) Tt (.bin .le (.un .len (.sel 5 V2 V5)) V7)) Tt (.bin .lt V8 (.n (-1))))) (.c (.bin .le N0 V6))
 (.need (.un .not (.ite (.ite (.bin .lt V7 (.n (-1))) Tt (.bin .le (.un .len (.sel 5 V2 V5)) V7)) Tt (.bin .lt V8 (.n (-1))))) (.c (.bin .lt V6 (.un .len V2)))
 (.ite (.ite (.ite (.ite (.bin .lt V7 (.n (-1))) Tt (.bin .le (.un .len (.sel 5 V2 V5)) V7)) Tt (.bin .lt V8 (.n (-1)))) Tt (.bin .le (.un .len (.sel 5 V2 V6)) V8))
 (.ret (.cons (.n 3) .nil))
 (.ite (.bin .lt (.n 32) (.un .slen V9))
 (.ret (.cons (.n 2) .nil))
 (.need Tt (.pre 94 (.cons V9 .nil))
 (.lt (.app 94 (.cons V9 .nil) 0) 1
 (.ite (.ite (.ite (.ite (.ite (.un .not V12) Tt (.bin .lt V10 (.n 1))) Tt (.bin .lt (.n 1000) V10)) Tt (.bin .lt V11 (.n 1))) Tt (.bin .lt (.n 64) V11))
 (.ret (.cons (.n 7) .nil))
 (.ret (.cons N0 .nil))))))))))))
theorem e71 : (fnVT Try.prog (sgOf sg71) (ltOf lt71) S71 Try.f71 c71).slim (S71.ps.map fun p => p.2.length).sum [] = vt71 := by kernel_rfl
def S42 : Sig := ⟨[(true, [.str, .bool, Ty0, Ty2, Ty5])], [(false, [i6])], [], none⟩
noncomputable def c42 : Code := Try.f42.body.getD .skip
theorem b42 : Try.f42.body = some c42 := body_some (by kernel_rfl)
theorem n42 : (Try.f42.name == "runtime.NumGoroutine") = false := by kernel_rfl
def sg42 : List (FuncId × Sig) := [(68, S68), (69, S69), (70, S70), (71, S71)]
def L42_0 : LoopSig := ⟨14200, [],
   ⟨[.any, (.c (.ptr 0 0)), (.c (.x i6 V0)), (.c (.x i6 V1)), .any, .any, .any, .any, .any, .any, .any, .any, .any, .any, .any, .any, .any, .any, .any, .any, .any, .any, .any, .any, .any, .any, .any, .any, .any, .any, .any, .any, .any, .any, .any, .any, .any, .any, .any, .any, .any, .any, .any, .any, .any, .any, .any, .any, .any, .any, .any, .any, .any, .any, .any, .any, .any, .any, .any, .any, .any, .any, .any, .any, .any, .any, .any, .any, .any, .any, .any, .any],
    [some ⟨Tt, (.box 26 [(.x .str V2), (.x .bool V3), (.x Ty0 V4), (.x Ty2 V5), (.x Ty5 V6)] false)⟩]⟩,
   7, [0, 1], [29, 30, 31, 32, 33, 36, 37, 38, 4, 39, 40, 41, 2, 34, 35, 3], [.ret, (.exit 0)], []⟩
def L42_1 : LoopSig := ⟨14201, [],
   ⟨[.any, (.c (.ptr 0 0)), (.c (.x i6 V0)), .any, .any, (.c (.x i6 V1)), .any, .any, .any, .any, .any, .any, .any, .any, .any, .any, .any, .any, .any, .any, .any, .any, .any, .any, .any, .any, .any, .any, .any, .any, .any, .any, .any, .any, .any, .any, .any, .any, .any, .any, .any, .any, .any, .any, .any, .any, .any, .any, .any, .any, .any, .any, .any, .any, .any, .any, .any, .any, .any, .any, .any, .any, .any, .any, .any, .any, .any, .any, .any, .any, .any, .any],
    [some ⟨Tt, (.box 26 [(.x .str V2), (.x .bool V3), (.x Ty0 V4), (.x Ty2 V5), (.x Ty5 V6)] false)⟩]⟩,
   7, [0, 1], [42, 43, 44, 45, 46, 49, 50, 51, 6, 52, 53, 54, 2, 47, 48, 5], [.ret, (.exit 2)], []⟩
def L42_2 : LoopSig := ⟨14202, [],
   ⟨[.any, (.c (.ptr 0 0)), (.c (.x i6 V0)), .any, .any, .any, .any, (.c (.x i6 V1)), .any, .any, .any, .any, .any, .any, .any, .any, .any, .any, .any, .any, .any, .any, .any, .any, .any, .any, .any, .any, .any, .any, .any, .any, .any, .any, .any, .any, .any, .any, .any, .any, .any, .any, .any, .any, .any, .any, .any, .any, .any, .any, .any, .any, .any, .any, .any, .any, .any, .any, .any, .any, .any, .any, .any, .any, .any, .any, .any, .any, .any, .any, .any, .any],
    [some ⟨Tt, (.box 26 [(.x .str V2), (.x .bool V3), (.x Ty0 V4), (.x Ty2 V5), (.x Ty5 V6)] false)⟩]⟩,
   7, [0, 1], [55, 56, 57, 58, 59, 62, 63, 64, 65, 66, 67, 68, 8, 69, 70, 71, 2, 60, 61, 7], [.ret, (.exit 4)], []⟩
def lt42 : List (Nat × LoopSig) := [(6, L42_0), (12, L42_1), (18, L42_2)]
theorem k42 : (Code.loops c42).length = 3 := by kernel_rfl
noncomputable def lb42_0 : Code := (Code.loops c42).getD 0 .skip
noncomputable def lb42_1 : Code := (Code.loops c42).getD 1 .skip
noncomputable def lb42_2 : Code := (Code.loops c42).getD 2 .skip
def rt42_0 : VT :=
 (.ite (.bin .lt V1 (.un .len V4))
 (.need Tt (.pre 69 (.cons V2 (.cons V3 (.cons V4 (.cons V5 (.cons V6 (.cons V1 .nil)))))))
 (.lt (.app 69 (.cons V2 (.cons V3 (.cons V4 (.cons V5 (.cons V6 (.cons V1 .nil)))))) 0) 1
 (.ite (.un .not (.bin .eq V7 N0))
 (.ret (.cons N0 (.cons V7 (.cons V1 .nil))))
 (.ret (.cons (.n (-1)) (.cons V0 (.cons (.bin (.add .i64) V1 (.n 1)) .nil)))))))
 (.ret (.cons (.n 1) (.cons V0 (.cons V1 .nil)))))
theorem le42_0 : (loopVT Try.prog (sgOf sg42) (ltOf lt42) L42_0 lb42_0).slim L42_0.nv [] = rt42_0 := by kernel_rfl
theorem lf42_0 : (firstRegion lb42_0).bind (ltOf lt42) = some L42_0 := by kernel_rfl
theorem lk42_0 : (Code.loops lb42_0).length = 0 := by kernel_rfl
def rt42_1 : VT :=
 (.ite (.bin .lt V1 (.un .len V6))
 (.need Tt (.pre 70 (.cons V2 (.cons V3 (.cons V4 (.cons V5 (.cons V6 (.cons V1 .nil)))))))
 (.lt (.app 70 (.cons V2 (.cons V3 (.cons V4 (.cons V5 (.cons V6 (.cons V1 .nil)))))) 0) 1
 (.ite (.un .not (.bin .eq V7 N0))
 (.ret (.cons N0 (.cons V7 (.cons V1 .nil))))
 (.ret (.cons (.n (-1)) (.cons V0 (.cons (.bin (.add .i64) V1 (.n 1)) .nil)))))))
 (.ret (.cons (.n 1) (.cons V0 (.cons V1 .nil)))))
theorem le42_1 : (loopVT Try.prog (sgOf sg42) (ltOf lt42) L42_1 lb42_1).slim L42_1.nv [] = rt42_1 := by kernel_rfl
theorem lf42_1 : (firstRegion lb42_1).bind (ltOf lt42) = some L42_1 := by kernel_rfl
theorem lk42_1 : (Code.loops lb42_1).length = 0 := by kernel_rfl
def rt42_2 : VT :=
 (.ite (.bin .lt V1 (.un .len V5))
 (.need Tt (.c (.bin .le N0 V1))
 (.need Tt (.pre 71 (.cons V2 (.cons V3 (.cons V4 (.cons V5 (.cons V6 (.cons (.sel 0 V5 V1) (.cons (.sel 1 V5 V1) (.cons (.sel 2 V5 V1) (.cons (.sel 3 V5 V1) (.cons (.sel 4 V5 V1) (.cons (.sel 5 V5 V1) (.cons (.sel 6 V5 V1) .nil)))))))))))))
 (.lt (.app 71 (.cons V2 (.cons V3 (.cons V4 (.cons V5 (.cons V6 (.cons (.sel 0 V5 V1) (.cons (.sel 1 V5 V1) (.cons (.sel 2 V5 V1) (.cons (.sel 3 V5 V1) (.cons (.sel 4 V5 V1) (.cons (.sel 5 V5 V1) (.cons (.sel 6 V5 V1) .nil)))))))))))) 0) 1
 (.ite (.un .not (.bin .eq V7 N0))
 (.ret (.cons N0 (.cons V7 (.cons V1 .nil))))
 (.ret (.cons (.n (-1)) (.cons V0 (.cons (.bin (.add .i64) V1 (.n 1)) .nil))))))))
 (.ret (.cons (.n 1) (.cons V0 (.cons V1 .nil)))))
theorem le42_2 : (loopVT Try.prog (sgOf sg42) (ltOf lt42) L42_2 lb42_2).slim L42_2.nv [] = rt42_2 := by kernel_rfl
theorem lf42_2 : (firstRegion lb42_2).bind (ltOf lt42) = some L42_2 := by kernel_rfl
theorem lk42_2 : (Code.loops lb42_2).length = 0 := by kernel_rfl
def vt42 : VT :=
 (.ite (.ite (.ite (.bin .lt (.n 64) (.un .len V2)) Tt (.bin .lt (.n 256) (.un .len V3))) Tt (.bin .lt (.n 16) (.un .len V4)))
 (.ret (.cons (.n 2) .nil))
 (.need Tt (.pre 68 (.cons V0 .nil))
 (.lt (.app 68 (.cons V0 .nil) 0) 1
 (.ite (.un .not V5)
 (.ret (.cons (.n 5) .nil))
 (.need Tt (.pre 14200 (.cons N0 (.cons N0 (.cons V0 (.cons V1 (.cons V2 (.cons V3 (.cons V4 .nil))))))))
 (.lt (.app 14200 (.cons N0 (.cons N0 (.cons V0 (.cons V1 (.cons V2 (.cons V3 (.cons V4 .nil))))))) 0) 3
 (.ite (.bin .eq V6 N0)
 (.ret (.cons V7 .nil))
 (.need Tt (.pre 14201 (.cons V7 (.cons N0 (.cons V0 (.cons V1 (.cons V2 (.cons V3 (.cons V4 .nil))))))))
 (.lt (.app 14201 (.cons V7 (.cons N0 (.cons V0 (.cons V1 (.cons V2 (.cons V3 (.cons V4 .nil))))))) 0) 3
 (.ite (.bin .eq V9 N0)
 (.ret (.cons V10 .nil))
 (.need Tt (.pre 14202 (.cons V10 (.cons N0 (.cons V0 (.cons V1 (.cons V2 (.cons V3 (.cons V4 .nil))))))))
 (.lt (.app 14202 (.cons V10 (.cons N0 (.cons V0 (.cons V1 (.cons V2 (.cons V3 (.cons V4 .nil))))))) 0) 3
 (.ite (.bin .eq V12 N0)
 (.ret (.cons V13 .nil))
 (.ret (.cons N0 .nil)))))))))))))))
theorem e42 : (fnVT Try.prog (sgOf sg42) (ltOf lt42) S42 Try.f42 c42).slim (S42.ps.map fun p => p.2.length).sum [] = vt42 := by kernel_rfl
def S43 : Sig := ⟨[(true, [i6, i6, i6, i6, i6])], [(false, [.bool])], [], none⟩
noncomputable def c43 : Code := Try.f43.body.getD .skip
theorem b43 : Try.f43.body = some c43 := body_some (by kernel_rfl)
theorem n43 : (Try.f43.name == "runtime.NumGoroutine") = false := by kernel_rfl
def sg43 : List (FuncId × Sig) := []
def lt43 : List (Nat × LoopSig) := []
theorem k43 : (Code.loops c43).length = 0 := by kernel_rfl
def vt43 : VT :=
 (.ret (.cons (.ite (.ite (.ite (.ite (.ite (.ite (.ite (.ite (.ite (.bin .le N0 V0) (.bin .le V0 (.n 4)) (.t false)) (.bin .le N0 V1) (.t false)) (.bin .le V1 (.n 1048576)) (.t false)) (.bin .le N0 V2) (.t false)) (.bin .le V2 (.n 1048576)) (.t false)) (.bin .le N0 V3) (.t false)) (.bin .le V3 (.n 1048576)) (.t false)) (.bin .le N0 V4) (.t false)) (.bin .le V4 (.n 100)) (.t false)) .nil))
theorem e43 : (fnVT Try.prog (sgOf sg43) (ltOf lt43) S43 Try.f43 c43).slim (S43.ps.map fun p => p.2.length).sum [] = vt43 := by kernel_rfl
def T43 : FuncId → List D → List D := tabOf []
def fn43 (ρ : List D) : List D := vt43.val T43 ρ
theorem m43 : Meets Try.prog 43 S43 (fun _ => True) fn43 := meets_easy (sgl := sg43) (Φ := T43) mixed ((fun _ h => nomatch h)) Try.func43 b43 n43 k43 e43 (by kernel_rfl)
def S67 : Sig := ⟨[(true, [i6, i6])], [(false, [.bool])], [], none⟩
noncomputable def c67 : Code := Try.f67.body.getD .skip
theorem b67 : Try.f67.body = some c67 := body_some (by kernel_rfl)
theorem n67 : (Try.f67.name == "runtime.NumGoroutine") = false := by kernel_rfl
def sg67 : List (FuncId × Sig) := []
def lt67 : List (Nat × LoopSig) := []
theorem k67 : (Code.loops c67).length = 0 := by kernel_rfl
def vt67 : VT :=
 (.ret (.cons (.ite (.ite (.ite (.bin .le (.n (-268435456)) V0) (.bin .le V0 (.n 268435456)) (.t false)) (.bin .le (.n (-268435456)) V1) (.t false)) (.bin .le V1 (.n 268435456)) (.t false)) .nil))
theorem e67 : (fnVT Try.prog (sgOf sg67) (ltOf lt67) S67 Try.f67 c67).slim (S67.ps.map fun p => p.2.length).sum [] = vt67 := by kernel_rfl
def T67 : FuncId → List D → List D := tabOf []
def fn67 (ρ : List D) : List D := vt67.val T67 ρ
theorem m67 : Meets Try.prog 67 S67 (fun _ => True) fn67 := meets_easy (sgl := sg67) (Φ := T67) mixed ((fun _ h => nomatch h)) Try.func67 b67 n67 k67 e67 (by kernel_rfl)
def S36 : Sig := ⟨[(true, [i6, i6, i6, i6])], [(false, [.bool])], [], none⟩
noncomputable def c36 : Code := Try.f36.body.getD .skip
theorem b36 : Try.f36.body = some c36 := body_some (by kernel_rfl)
theorem n36 : (Try.f36.name == "runtime.NumGoroutine") = false := by kernel_rfl
def sg36 : List (FuncId × Sig) := [(67, S67)]
def lt36 : List (Nat × LoopSig) := []
theorem k36 : (Code.loops c36).length = 0 := by kernel_rfl
def vt36 : VT :=
 (.need Tt (.pre 67 (.cons V0 (.cons V1 .nil)))
 (.lt (.app 67 (.cons V0 (.cons V1 .nil)) 0) 1
 (.need V4 (.pre 67 (.cons V2 (.cons V3 .nil)))
 (.lt (.app 67 (.cons V2 (.cons V3 .nil)) 0) 1
 (.ret (.cons (.ite (.ite (.ite V4 V5 (.t false)) (.bin .le V0 V2) (.t false)) (.bin .le V1 V3) (.t false)) .nil))))))
theorem e36 : (fnVT Try.prog (sgOf sg36) (ltOf lt36) S36 Try.f36 c36).slim (S36.ps.map fun p => p.2.length).sum [] = vt36 := by kernel_rfl
def T36 : FuncId → List D → List D := tabOf [(67, fn67)]
def fn36 (ρ : List D) : List D := vt36.val T36 ρ
theorem m36 : Meets Try.prog 36 S36 (fun _ => True) fn36 := meets_easy (sgl := sg36) (Φ := T36) mixed (List.forall_mem_cons.2 ⟨m67, (fun _ h => nomatch h)⟩) Try.func36 b36 n36 k36 e36 (by kernel_rfl)
def S63 : Sig := ⟨[(true, [i6, i6, i6, i6]), (true, [i6, i6, i6, i6])], [(false, [.bool])], [], none⟩
noncomputable def c63 : Code := Try.f63.body.getD .skip
theorem b63 : Try.f63.body = some c63 := body_some (by kernel_rfl)
theorem n63 : (Try.f63.name == "runtime.NumGoroutine") = false := by kernel_rfl
def sg63 : List (FuncId × Sig) := [(36, S36)]
def lt63 : List (Nat × LoopSig) := []
theorem k63 : (Code.loops c63).length = 0 := by kernel_rfl
def vt63 : VT :=
 (.need Tt (.pre 36 (.cons V0 (.cons V1 (.cons V2 (.cons V3 .nil)))))
 (.lt (.app 36 (.cons V0 (.cons V1 (.cons V2 (.cons V3 .nil)))) 0) 1
 (.need V8 (.pre 36 (.cons V4 (.cons V5 (.cons V6 (.cons V7 .nil)))))
 (.lt (.app 36 (.cons V4 (.cons V5 (.cons V6 (.cons V7 .nil)))) 0) 1
 (.ret (.cons (.ite (.ite (.ite V8 V9 (.t false)) (.bin .lt (.bin .max V0 V4) (.bin .min V2 V6)) (.t false)) (.bin .lt (.bin .max V1 V5) (.bin .min V3 V7)) (.t false)) .nil))))))
theorem e63 : (fnVT Try.prog (sgOf sg63) (ltOf lt63) S63 Try.f63 c63).slim (S63.ps.map fun p => p.2.length).sum [] = vt63 := by kernel_rfl
def T63 : FuncId → List D → List D := tabOf [(36, fn36)]
def fn63 (ρ : List D) : List D := vt63.val T63 ρ
theorem m63 : Meets Try.prog 63 S63 (fun _ => True) fn63 := meets_easy (sgl := sg63) (Φ := T63) mixed (List.forall_mem_cons.2 ⟨m36, (fun _ h => nomatch h)⟩) Try.func63 b63 n63 k63 e63 (by kernel_rfl)
def S32 : Sig := ⟨[(true, [.str, .bool, Ty0, Ty2, Ty5]), (true, [i6, i6, i6, i6, i6]), (false, [Ty3])], [(false, [i6])], [], none⟩
noncomputable def c32 : Code := Try.f32.body.getD .skip
theorem b32 : Try.f32.body = some c32 := body_some (by kernel_rfl)
theorem n32 : (Try.f32.name == "runtime.NumGoroutine") = false := by kernel_rfl
def sg32 : List (FuncId × Sig) := [(42, S42), (43, S43), (36, S36), (63, S63)]
def L32_0 : LoopSig := ⟨13200, [],
   ⟨[.any, .any, (.c (.x Ty3 V0)), (.c (.ptr 0 0)), .any, .any, (.c (.x i6 V1)), .any, (.c (.x i6 V2)), .any, .any, .any, .any, .any, .any, .any, .any, .any, .any, .any, .any, .any, .any, .any, .any, .any, .any, .any, .any, .any, .any, .any, .any, .any, .any, .any, .any, .any, .any, .any, .any, .any, .any, .any, .any, .any, .any, .any, .any, .any, .any, .any, .any, .any, .any, .any, .any, .any, .any, .any, .any, .any, .any, .any, .any, .any, .any, .any, .any, .any, .any, .any, .any, .any, .any, .any, .any, .any, .any, .any, .any, .any, .any, .any, .any, .any, .any, .any, .any, .any, .any, .any, .any, .any, .any, .any, .any],
    [some ⟨Tt, (.box 26 [(.x .str V3), (.x .bool V4), (.x Ty0 V5), (.x Ty2 V6), (.x Ty5 V7)] false)⟩]⟩,
   8, [1, 2], [25, 26, 27, 28, 31, 32, 33, 34, 35, 36, 37, 38, 39, 40, 41, 42, 43, 44, 45, 46, 47, 48, 49, 50, 51, 52, 53, 54, 55, 56, 57, 58, 59, 60, 61, 62, 63, 64, 65, 66, 67, 68, 69, 70, 71, 72, 73, 74, 75, 76, 6, 29, 30, 8], [.ret, (.exit 0)], []⟩
def L32_1 : LoopSig := ⟨13202, [],
   ⟨[.any, .any, (.c (.x Ty3 V0)), .any, .any, .any, (.c (.x i6 V1)), .any, .any, (.c (.x i6 V2)), .any, .any, .any, .any, .any, .any, .any, .any, .any, .any, .any, .any, .any, .any, .any, .any, .any, .any, .any, .any, .any, .any, .any, .any, .any, .any, .any, .any, .any, .any, .any, .any, .any, .any, .any, .any, .any, .any, .any, .any, .any, .any, .any, .any, .any, .any, .any, .any, .any, .any, .any, .any, .any, .any, .any, .any, .any, .any, .any, .any, .any, .any, .any, .any, .any, .any, .any, .any, .any, .any, .any, .any, .any, .any, .any, .any, .any, .any, .any, .any, .any, .any, .any, .any, .any, .any, .any],
    []⟩,
   3, [1, 2], [77, 78, 79, 80, 10, 83, 84, 85, 88, 89, 90, 91, 92, 93, 94, 95, 96, 6, 86, 87, 81, 82, 9], [.ret, (.exit 2)], []⟩
def L32_2 : LoopSig := ⟨13201, [],
   ⟨[.any, .any, (.c (.x Ty3 V0)), .any, .any, .any, (.c (.x i6 V1)), .any, .any, (.c (.x i6 V2)), (.c (.x i6 V3)), .any, .any, .any, .any, .any, .any, .any, .any, .any, .any, .any, .any, .any, .any, .any, .any, .any, .any, .any, .any, .any, .any, .any, .any, .any, .any, .any, .any, .any, .any, .any, .any, .any, .any, .any, .any, .any, .any, .any, .any, .any, .any, .any, .any, .any, .any, .any, .any, .any, .any, .any, .any, .any, .any, .any, .any, .any, .any, .any, .any, .any, .any, .any, .any, .any, .any, .any, .any, .any, .any, .any, .any, .any, .any, .any, .any, .any, .any, .any, .any, .any, .any, .any, .any, .any, .any],
    []⟩,
   4, [1, 3], [83, 84, 85, 88, 89, 90, 91, 92, 93, 94, 95, 96, 6, 86, 87, 10], [.ret, (.exit 4)], []⟩
def lt32 : List (Nat × LoopSig) := [(9, L32_0), (14, L32_1), (17, L32_2)]
theorem k32 : (Code.loops c32).length = 3 := by kernel_rfl
noncomputable def lb32_0 : Code := (Code.loops c32).getD 0 .skip
noncomputable def lb32_1 : Code := (Code.loops c32).getD 1 .skip
noncomputable def lb32_2 : Code := (Code.loops c32).getD 2 .skip
def rt32_0 : VT :=
 (.ite (.bin .lt V2 (.un .len V0))
 (.need Tt (.c (.bin .le N0 V2))
 (.need Tt (.pre 36 (.cons (.sel 0 V0 V2) (.cons (.sel 1 V0 V2) (.cons (.sel 2 V0 V2) (.cons (.sel 3 V0 V2) .nil)))))
 (.lt (.app 36 (.cons (.sel 0 V0 V2) (.cons (.sel 1 V0 V2) (.cons (.sel 2 V0 V2) (.cons (.sel 3 V0 V2) .nil)))) 0) 1
 (.need V8 (.c (.bin .lt V2 (.un .len V5)))
 (.need (.un .not (.ite (.un .not V8) Tt (.un .not (.bin .eq (.bin (.sub .i64) (.sel 2 V0 V2) (.sel 0 V0 V2)) (.sel 2 V5 V2))))) (.c (.bin .lt V2 (.un .len V5)))
 (.ite (.ite (.ite (.un .not V8) Tt (.un .not (.bin .eq (.bin (.sub .i64) (.sel 2 V0 V2) (.sel 0 V0 V2)) (.sel 2 V5 V2)))) Tt (.un .not (.bin .eq (.bin (.sub .i64) (.sel 3 V0 V2) (.sel 1 V0 V2)) (.sel 3 V5 V2))))
 (.ret (.cons N0 (.cons (.n 1) (.cons V2 .nil))))
 (.ret (.cons (.n (-1)) (.cons V1 (.cons (.bin (.add .i64) V2 (.n 1)) .nil))))))))))
 (.ret (.cons (.n 1) (.cons V1 (.cons V2 .nil)))))
theorem le32_0 : (loopVT Try.prog (sgOf sg32) (ltOf lt32) L32_0 lb32_0).slim L32_0.nv [] = rt32_0 := by kernel_rfl
theorem lf32_0 : (firstRegion lb32_0).bind (ltOf lt32) = some L32_0 := by kernel_rfl
theorem lk32_0 : (Code.loops lb32_0).length = 0 := by kernel_rfl
def rt32_1 : VT :=
 (.ite (.bin .lt V2 (.un .len V0))
 (.need Tt (.pre 13201 (.cons V0 (.cons V1 (.cons V2 (.cons N0 .nil)))))
 (.lt (.app 13201 (.cons V0 (.cons V1 (.cons V2 (.cons N0 .nil)))) 0) 3
 (.ite (.bin .eq V3 N0)
 (.ret (.cons N0 (.cons V4 (.cons V2 .nil))))
 (.ret (.cons (.n (-1)) (.cons V4 (.cons (.bin (.add .i64) V2 (.n 1)) .nil)))))))
 (.ret (.cons (.n 1) (.cons V1 (.cons V2 .nil)))))
theorem le32_1 : (loopVT Try.prog (sgOf sg32) (ltOf lt32) L32_1 lb32_1).slim L32_1.nv [] = rt32_1 := by kernel_rfl
theorem lf32_1 : (firstRegion lb32_1).bind (ltOf lt32) = some L32_1 := by kernel_rfl
theorem lk32_1 : (Code.loops lb32_1).length = 1 := by kernel_rfl
theorem li32_1_0 : (Code.loops lb32_1).getD 0 .skip = lb32_2 := by kernel_rfl
def rt32_2 : VT :=
 (.ite (.bin .lt V3 V2)
 (.need Tt (.c (.bin .le N0 V2))
 (.need Tt (.c (.bin .lt V2 (.un .len V0)))
 (.need Tt (.c (.bin .le N0 V3))
 (.need Tt (.c (.bin .lt V3 (.un .len V0)))
 (.need Tt (.pre 63 (.cons (.sel 0 V0 V2) (.cons (.sel 1 V0 V2) (.cons (.sel 2 V0 V2) (.cons (.sel 3 V0 V2) (.cons (.sel 0 V0 V3) (.cons (.sel 1 V0 V3) (.cons (.sel 2 V0 V3) (.cons (.sel 3 V0 V3) .nil)))))))))
 (.lt (.app 63 (.cons (.sel 0 V0 V2) (.cons (.sel 1 V0 V2) (.cons (.sel 2 V0 V2) (.cons (.sel 3 V0 V2) (.cons (.sel 0 V0 V3) (.cons (.sel 1 V0 V3) (.cons (.sel 2 V0 V3) (.cons (.sel 3 V0 V3) .nil)))))))) 0) 1
 (.ite V4
 (.ret (.cons N0 (.cons (.n 14) (.cons V3 .nil))))
 (.ret (.cons (.n (-1)) (.cons V1 (.cons (.bin (.add .i64) V3 (.n 1)) .nil)))))))))))
 (.ret (.cons (.n 1) (.cons V1 (.cons V3 .nil)))))
theorem le32_2 : (loopVT Try.prog (sgOf sg32) (ltOf lt32) L32_2 lb32_2).slim L32_2.nv [] = rt32_2 := by kernel_rfl
theorem lf32_2 : (firstRegion lb32_2).bind (ltOf lt32) = some L32_2 := by kernel_rfl
theorem lk32_2 : (Code.loops lb32_2).length = 0 := by kernel_rfl
def vt32 : VT :=
 (.need Tt (.pre 42 (.cons V0 (.cons V1 (.cons V2 (.cons V3 (.cons V4 .nil))))))
 (.lt (.app 42 (.cons V0 (.cons V1 (.cons V2 (.cons V3 (.cons V4 .nil))))) 0) 1
 (.ite (.un .not (.bin .eq V11 N0))
 (.ret (.cons V11 .nil))
 (.need Tt (.pre 43 (.cons V5 (.cons V6 (.cons V7 (.cons V8 (.cons V9 .nil))))))
 (.lt (.app 43 (.cons V5 (.cons V6 (.cons V7 (.cons V8 (.cons V9 .nil))))) 0) 1
 (.ite (.un .not V12)
 (.ret (.cons (.n 7) .nil))
 (.ite (.un .not (.bin .eq (.un .len V10) (.un .len V2)))
 (.ret (.cons (.n 1) .nil))
 (.need Tt (.pre 13200 (.cons V10 (.cons N0 (.cons N0 (.cons V0 (.cons V1 (.cons V2 (.cons V3 (.cons V4 .nil)))))))))
 (.lt (.app 13200 (.cons V10 (.cons N0 (.cons N0 (.cons V0 (.cons V1 (.cons V2 (.cons V3 (.cons V4 .nil)))))))) 0) 3
 (.ite (.bin .eq V13 N0)
 (.ret (.cons V14 .nil))
 (.need Tt (.pre 13202 (.cons V10 (.cons V14 (.cons N0 .nil))))
 (.lt (.app 13202 (.cons V10 (.cons V14 (.cons N0 .nil))) 0) 3
 (.ite (.bin .eq V16 N0)
 (.ret (.cons V17 .nil))
 (.ret (.cons N0 .nil)))))))))))))))
theorem e32 : (fnVT Try.prog (sgOf sg32) (ltOf lt32) S32 Try.f32 c32).slim (S32.ps.map fun p => p.2.length).sum [] = vt32 := by kernel_rfl
def S38 : Sig := ⟨[(true, [.str, .bool, Ty0, Ty2, Ty5]), (false, [i6])], [(false, [Ty7])], [], none⟩
noncomputable def c38 : Code := Try.f38.body.getD .skip
theorem b38 : Try.f38.body = some c38 := body_some (by kernel_rfl)
theorem n38 : (Try.f38.name == "runtime.NumGoroutine") = false := by kernel_rfl
def sg38 : List (FuncId × Sig) := []
def L38_0 : LoopSig := ⟨13800, [(5, none, 3)],
   ⟨[.any, (.c (.x i6 V0)), (.c (.ptr 0 0)), .any, .any, (.c (.row 1 1)), (.c (.x i6 V1)), .any, .any, .any, .any, .any, .any, .any, .any, .any, .any, .any, .any, .any, .any, .any, .any, .any, .any, .any, .any],
    [some ⟨Tt, (.box 26 [(.x .str V2), (.x .bool V3), (.x Ty0 V4), (.x Ty2 V5), (.x Ty5 V6)] false)⟩, some ⟨Tt, (.row 3 [i6] V7 1 false)⟩]⟩,
   8, [1, 7], [7, 8, 9, 10, 11, 14, 15, 16, 17, 18, 19, 20, 21, 22, 23, 24, 25, 5, 12, 13, 6], [(.exit 0)], [7]⟩
def lt38 : List (Nat × LoopSig) := [(3, L38_0)]
theorem k38 : (Code.loops c38).length = 1 := by kernel_rfl
noncomputable def lb38_0 : Code := (Code.loops c38).getD 0 .skip
def rt38_0 : VT :=
 (.ite (.bin .lt V1 (.un .len V4))
 (.need Tt (.c (.bin .le N0 V1))
 (.ite (.bin .eq (.sel 4 V4 V1) V0)
 (.need Tt (.c (.bin .le (.un .len (.bin .cat V7 (.lcons (.cons V1 .nil) .lnil))) (.n 17592186044416)))
 (.ret (.cons (.n (-1)) (.cons (.bin (.add .i64) V1 (.n 1)) (.cons (.bin .cat V7 (.lcons (.cons V1 .nil) .lnil)) .nil)))))
 (.ret (.cons (.n (-1)) (.cons (.bin (.add .i64) V1 (.n 1)) (.cons V7 .nil))))))
 (.ret (.cons N0 (.cons V1 (.cons V7 .nil)))))
theorem le38_0 : (loopVT Try.prog (sgOf sg38) (ltOf lt38) L38_0 lb38_0).slim L38_0.nv [] = rt38_0 := by kernel_rfl
theorem lf38_0 : (firstRegion lb38_0).bind (ltOf lt38) = some L38_0 := by kernel_rfl
theorem lk38_0 : (Code.loops lb38_0).length = 0 := by kernel_rfl
def vt38 : VT :=
 (.need Tt (.pre 13800 (.cons V5 (.cons N0 (.cons V0 (.cons V1 (.cons V2 (.cons V3 (.cons V4 (.cons .lnil .nil)))))))))
 (.lt (.app 13800 (.cons V5 (.cons N0 (.cons V0 (.cons V1 (.cons V2 (.cons V3 (.cons V4 (.cons .lnil .nil)))))))) 0) 3
 (.ret (.cons V8 .nil))))
theorem e38 : (fnVT Try.prog (sgOf sg38) (ltOf lt38) S38 Try.f38 c38).slim (S38.ps.map fun p => p.2.length).sum [] = vt38 := by kernel_rfl
def S35 : Sig := ⟨[(false, [Ty3])], [(true, [i6, i6, i6, i6])], [], none⟩
noncomputable def c35 : Code := Try.f35.body.getD .skip
theorem b35 : Try.f35.body = some c35 := body_some (by kernel_rfl)
theorem n35 : (Try.f35.name == "runtime.NumGoroutine") = false := by kernel_rfl
def sg35 : List (FuncId × Sig) := [(36, S36)]
def L35_0 : LoopSig := ⟨13500, [],
   ⟨[(.c (.x Ty3 V0)), .any, .any, (.c (.ptr 1 0)), (.c (.x .bool V1)), (.c (.x i6 V2)), .any, .any, .any, .any, .any, .any, .any, .any, .any, .any, .any, .any, .any, .any, .any, .any, .any, .any, .any, .any, .any, .any, .any, .any, .any, .any, .any, .any, .any, .any, .any, .any, .any, .any, .any, .any, .any, .any, .any, .any],
    [none, some ⟨Tt, (.box 40 [(.x i6 V3), (.x i6 V4), (.x i6 V5), (.x i6 V6)] false)⟩]⟩,
   7, [1, 2, 3, 4, 5, 6], [8, 9, 10, 11, 14, 15, 16, 17, 6, 18, 19, 20, 21, 22, 23, 4, 24, 25, 26, 27, 28, 29, 30, 31, 32, 33, 34, 35, 36, 37, 38, 39, 40, 41, 42, 43, 44, 12, 13, 5], [(.exit 0)], []⟩
def lt35 : List (Nat × LoopSig) := [(3, L35_0)]
theorem k35 : (Code.loops c35).length = 1 := by kernel_rfl
noncomputable def lb35_0 : Code := (Code.loops c35).getD 0 .skip
def rt35_0 : VT :=
 (.ite (.bin .lt V2 (.un .len V0))
 (.need Tt (.c (.bin .le N0 V2))
 (.need Tt (.pre 36 (.cons (.sel 0 V0 V2) (.cons (.sel 1 V0 V2) (.cons (.sel 2 V0 V2) (.cons (.sel 3 V0 V2) .nil)))))
 (.lt (.app 36 (.cons (.sel 0 V0 V2) (.cons (.sel 1 V0 V2) (.cons (.sel 2 V0 V2) (.cons (.sel 3 V0 V2) .nil)))) 0) 1
 (.ite (.un .not V7)
 (.ret (.cons (.n (-1)) (.cons V1 (.cons (.bin (.add .i64) V2 (.n 1)) (.cons V3 (.cons V4 (.cons V5 (.cons V6 .nil))))))))
 (.ite (.un .not V1)
 (.ret (.cons (.n (-1)) (.cons Tt (.cons (.bin (.add .i64) V2 (.n 1)) (.cons (.bin .min (.sel 0 V0 V2) (.sel 0 V0 V2)) (.cons (.bin .min (.sel 1 V0 V2) (.sel 1 V0 V2)) (.cons (.bin .max (.sel 2 V0 V2) (.sel 2 V0 V2)) (.cons (.bin .max (.sel 3 V0 V2) (.sel 3 V0 V2)) .nil))))))))
 (.ret (.cons (.n (-1)) (.cons V1 (.cons (.bin (.add .i64) V2 (.n 1)) (.cons (.bin .min V3 (.sel 0 V0 V2)) (.cons (.bin .min V4 (.sel 1 V0 V2)) (.cons (.bin .max V5 (.sel 2 V0 V2)) (.cons (.bin .max V6 (.sel 3 V0 V2)) .nil)))))))))))))
 (.ret (.cons N0 (.cons V1 (.cons V2 (.cons V3 (.cons V4 (.cons V5 (.cons V6 .nil)))))))))
theorem le35_0 : (loopVT Try.prog (sgOf sg35) (ltOf lt35) L35_0 lb35_0).slim L35_0.nv [] = rt35_0 := by kernel_rfl
theorem lf35_0 : (firstRegion lb35_0).bind (ltOf lt35) = some L35_0 := by kernel_rfl
theorem lk35_0 : (Code.loops lb35_0).length = 0 := by kernel_rfl
def vt35 : VT :=
 (.need Tt (.pre 13500 (.cons V0 (.cons (.t false) (.cons N0 (.cons N0 (.cons N0 (.cons N0 (.cons N0 .nil))))))))
 (.lt (.app 13500 (.cons V0 (.cons (.t false) (.cons N0 (.cons N0 (.cons N0 (.cons N0 (.cons N0 .nil))))))) 0) 7
 (.ret (.cons V4 (.cons V5 (.cons V6 (.cons V7 .nil)))))))
theorem e35 : (fnVT Try.prog (sgOf sg35) (ltOf lt35) S35 Try.f35 c35).slim (S35.ps.map fun p => p.2.length).sum [] = vt35 := by kernel_rfl
def S39 : Sig := ⟨[(true, [.str, .bool, Ty0, Ty2, Ty5]), (false, [Ty3]), (false, [i6])], [(true, [i6, i6, i6, i6])], [], none⟩
noncomputable def c39 : Code := Try.f39.body.getD .skip
theorem b39 : Try.f39.body = some c39 := body_some (by kernel_rfl)
theorem n39 : (Try.f39.name == "runtime.NumGoroutine") = false := by kernel_rfl
def sg39 : List (FuncId × Sig) := [(38, S38), (35, S35)]
def L39_0 : LoopSig := ⟨13900, [(7, none, 40)],
   ⟨[.any, (.c (.x Ty3 V0)), .any, .any, .any, .any, .any, (.c (.row 2 1)), (.c (.x Ty7 V1)), (.c (.x i6 V2)), .any, .any, .any, .any, .any, .any, .any, .any, .any, .any, .any, .any, .any, .any, .any, .any, .any, .any, .any, .any, .any],
    [none, none, some ⟨Tt, (.row 40 [i6, i6, i6, i6] V3 1 false)⟩]⟩,
   4, [2, 3], [13, 14, 15, 16, 19, 20, 21, 22, 23, 24, 25, 26, 27, 28, 7, 17, 18, 9], [(.exit 0)], [3]⟩
def lt39 : List (Nat × LoopSig) := [(4, L39_0)]
theorem k39 : (Code.loops c39).length = 1 := by kernel_rfl
noncomputable def lb39_0 : Code := (Code.loops c39).getD 0 .skip
def rt39_0 : VT :=
 (.ite (.bin .lt V2 (.un .len V1))
 (.need Tt (.c (.bin .le N0 V2))
 (.need Tt (.c (.bin .le N0 (.sel 0 V1 V2)))
 (.need Tt (.c (.bin .lt (.sel 0 V1 V2) (.un .len V0)))
 (.need Tt (.c (.bin .le (.un .len (.bin .cat V3 (.lcons (.cons (.sel 0 V0 (.sel 0 V1 V2)) (.cons (.sel 1 V0 (.sel 0 V1 V2)) (.cons (.sel 2 V0 (.sel 0 V1 V2)) (.cons (.sel 3 V0 (.sel 0 V1 V2)) .nil)))) .lnil))) (.n 4398046511104)))
 (.ret (.cons (.n (-1)) (.cons (.bin (.add .i64) V2 (.n 1)) (.cons (.bin .cat V3 (.lcons (.cons (.sel 0 V0 (.sel 0 V1 V2)) (.cons (.sel 1 V0 (.sel 0 V1 V2)) (.cons (.sel 2 V0 (.sel 0 V1 V2)) (.cons (.sel 3 V0 (.sel 0 V1 V2)) .nil)))) .lnil)) .nil))))))))
 (.ret (.cons N0 (.cons V2 (.cons V3 .nil)))))
theorem le39_0 : (loopVT Try.prog (sgOf sg39) (ltOf lt39) L39_0 lb39_0).slim L39_0.nv [] = rt39_0 := by kernel_rfl
theorem lf39_0 : (firstRegion lb39_0).bind (ltOf lt39) = some L39_0 := by kernel_rfl
theorem lk39_0 : (Code.loops lb39_0).length = 0 := by kernel_rfl
def vt39 : VT :=
 (.need Tt (.pre 38 (.cons V0 (.cons V1 (.cons V2 (.cons V3 (.cons V4 (.cons V6 .nil)))))))
 (.lt (.app 38 (.cons V0 (.cons V1 (.cons V2 (.cons V3 (.cons V4 (.cons V6 .nil)))))) 0) 1
 (.need Tt (.pre 13900 (.cons V5 (.cons V7 (.cons N0 (.cons .lnil .nil)))))
 (.lt (.app 13900 (.cons V5 (.cons V7 (.cons N0 (.cons .lnil .nil)))) 0) 3
 (.need Tt (.pre 35 (.cons V10 .nil))
 (.lt (.app 35 (.cons V10 .nil) 0) 4
 (.ret (.cons V11 (.cons V12 (.cons V13 (.cons V14 .nil)))))))))))
theorem e39 : (fnVT Try.prog (sgOf sg39) (ltOf lt39) S39 Try.f39 c39).slim (S39.ps.map fun p => p.2.length).sum [] = vt39 := by kernel_rfl
def S41 : Sig := ⟨[(true, [.str, .bool, Ty0, Ty2, Ty5]), (false, [i6])], [(false, [Ty7])], [], none⟩
noncomputable def c41 : Code := Try.f41.body.getD .skip
theorem b41 : Try.f41.body = some c41 := body_some (by kernel_rfl)
theorem n41 : (Try.f41.name == "runtime.NumGoroutine") = false := by kernel_rfl
def sg41 : List (FuncId × Sig) := []
def L41_0 : LoopSig := ⟨14100, [(5, none, 3)],
   ⟨[.any, (.c (.x i6 V0)), (.c (.ptr 0 0)), .any, .any, (.c (.row 1 1)), (.c (.x i6 V1)), .any, .any, .any, .any, .any, .any, .any, .any, .any, .any, .any, .any, .any, .any, .any, .any, .any, .any, .any, .any],
    [some ⟨Tt, (.box 26 [(.x .str V2), (.x .bool V3), (.x Ty0 V4), (.x Ty2 V5), (.x Ty5 V6)] false)⟩, some ⟨Tt, (.row 3 [i6] V7 1 false)⟩]⟩,
   8, [1, 7], [7, 8, 9, 10, 11, 14, 15, 16, 17, 18, 19, 20, 21, 22, 23, 24, 25, 5, 12, 13, 6], [(.exit 0)], [7]⟩
def lt41 : List (Nat × LoopSig) := [(3, L41_0)]
theorem k41 : (Code.loops c41).length = 1 := by kernel_rfl
noncomputable def lb41_0 : Code := (Code.loops c41).getD 0 .skip
def rt41_0 : VT :=
 (.ite (.bin .lt V1 (.un .len V6))
 (.need Tt (.c (.bin .le N0 V1))
 (.ite (.bin .eq (.sel 1 V6 V1) V0)
 (.need Tt (.c (.bin .le (.un .len (.bin .cat V7 (.lcons (.cons V1 .nil) .lnil))) (.n 17592186044416)))
 (.ret (.cons (.n (-1)) (.cons (.bin (.add .i64) V1 (.n 1)) (.cons (.bin .cat V7 (.lcons (.cons V1 .nil) .lnil)) .nil)))))
 (.ret (.cons (.n (-1)) (.cons (.bin (.add .i64) V1 (.n 1)) (.cons V7 .nil))))))
 (.ret (.cons N0 (.cons V1 (.cons V7 .nil)))))
theorem le41_0 : (loopVT Try.prog (sgOf sg41) (ltOf lt41) L41_0 lb41_0).slim L41_0.nv [] = rt41_0 := by kernel_rfl
theorem lf41_0 : (firstRegion lb41_0).bind (ltOf lt41) = some L41_0 := by kernel_rfl
theorem lk41_0 : (Code.loops lb41_0).length = 0 := by kernel_rfl
def vt41 : VT :=
 (.need Tt (.pre 14100 (.cons V5 (.cons N0 (.cons V0 (.cons V1 (.cons V2 (.cons V3 (.cons V4 (.cons .lnil .nil)))))))))
 (.lt (.app 14100 (.cons V5 (.cons N0 (.cons V0 (.cons V1 (.cons V2 (.cons V3 (.cons V4 (.cons .lnil .nil)))))))) 0) 3
 (.ret (.cons V8 .nil))))
theorem e41 : (fnVT Try.prog (sgOf sg41) (ltOf lt41) S41 Try.f41 c41).slim (S41.ps.map fun p => p.2.length).sum [] = vt41 := by kernel_rfl
def S34 : Sig := ⟨[(true, [.str, .bool, Ty0, Ty2, Ty5]), (false, [Ty3]), (false, [i6]), (false, [Ty3])], [(false, [(.osl 75 [i6, i6])])], [], none⟩
noncomputable def c34 : Code := Try.f34.body.getD .skip
theorem b34 : Try.f34.body = some c34 := body_some (by kernel_rfl)
theorem n34 : (Try.f34.name == "runtime.NumGoroutine") = false := by kernel_rfl
def sg34 : List (FuncId × Sig) := [(38, S38), (39, S39), (41, S41)]
def L34_0 : LoopSig := ⟨13400, [(9, none, 75)],
   ⟨[.any, .any, .any, (.c (.x Ty3 V0)), .any, .any, .any, .any, .any, (.c (.row 3 1)), .any, (.c (.x Ty7 V1)), (.c (.x i6 V2)), .any, .any, .any, .any, .any, .any, .any, .any, .any, .any, .any, .any, .any, .any, .any, .any, .any, .any, .any, .any, .any, .any, .any, .any, .any, .any, .any, .any, .any, .any, .any, .any, .any, .any, .any, .any, .any, .any, .any, .any, .any, .any, .any, .any, .any, .any, .any, .any, .any, .any, .any, .any, .any],
    [none, none, none, some ⟨Tt, (.row 75 [i6, i6] V3 1 false)⟩]⟩,
   4, [2, 3], [39, 40, 41, 42, 45, 46, 47, 48, 49, 50, 51, 52, 53, 54, 55, 56, 57, 58, 59, 60, 61, 62, 63, 64, 9, 43, 44, 12], [(.exit 0)], [3]⟩
def lt34 : List (Nat × LoopSig) := [(7, L34_0)]
theorem k34 : (Code.loops c34).length = 1 := by kernel_rfl
noncomputable def lb34_0 : Code := (Code.loops c34).getD 0 .skip
def rt34_0 : VT :=
 (.ite (.bin .lt V2 (.un .len V1))
 (.need Tt (.c (.bin .le N0 V2))
 (.need Tt (.c (.bin .le N0 (.sel 0 V1 V2)))
 (.need Tt (.c (.bin .lt (.sel 0 V1 V2) (.un .len V0)))
 (.need Tt (.c (.bin .le (.un .len (.bin .cat V3 (.lcons (.cons (.sel 2 V0 (.sel 0 V1 V2)) (.cons (.sel 3 V0 (.sel 0 V1 V2)) .nil)) .lnil))) (.n 8796093022208)))
 (.ret (.cons (.n (-1)) (.cons (.bin (.add .i64) V2 (.n 1)) (.cons (.bin .cat V3 (.lcons (.cons (.sel 2 V0 (.sel 0 V1 V2)) (.cons (.sel 3 V0 (.sel 0 V1 V2)) .nil)) .lnil)) .nil))))))))
 (.ret (.cons N0 (.cons V2 (.cons V3 .nil)))))
theorem le34_0 : (loopVT Try.prog (sgOf sg34) (ltOf lt34) L34_0 lb34_0).slim L34_0.nv [] = rt34_0 := by kernel_rfl
theorem lf34_0 : (firstRegion lb34_0).bind (ltOf lt34) = some L34_0 := by kernel_rfl
theorem lk34_0 : (Code.loops lb34_0).length = 0 := by kernel_rfl
def vt34 : VT :=
 (.need Tt (.pre 38 (.cons V0 (.cons V1 (.cons V2 (.cons V3 (.cons V4 (.cons V6 .nil)))))))
 (.lt (.app 38 (.cons V0 (.cons V1 (.cons V2 (.cons V3 (.cons V4 (.cons V6 .nil)))))) 0) 1
 (.ite (.bin .lt N0 (.un .len V8))
 (.need Tt (.pre 39 (.cons V0 (.cons V1 (.cons V2 (.cons V3 (.cons V4 (.cons V5 (.cons V6 .nil))))))))
 (.lt (.app 39 (.cons V0 (.cons V1 (.cons V2 (.cons V3 (.cons V4 (.cons V5 (.cons V6 .nil))))))) 0) 4
 (.need Tt (.c (.bin .le (.un .len (.lcons (.cons (.bin (.sub .i64) V11 V9) (.cons (.bin (.sub .i64) V12 V10) .nil)) .lnil)) (.n 8796093022208)))
 (.need Tt (.pre 41 (.cons V0 (.cons V1 (.cons V2 (.cons V3 (.cons V4 (.cons V6 .nil)))))))
 (.lt (.app 41 (.cons V0 (.cons V1 (.cons V2 (.cons V3 (.cons V4 (.cons V6 .nil)))))) 0) 1
 (.need Tt (.pre 13400 (.cons V7 (.cons V13 (.cons N0 (.cons (.bin .cat .lnil (.lcons (.cons (.bin (.sub .i64) V11 V9) (.cons (.bin (.sub .i64) V12 V10) .nil)) .lnil)) .nil)))))
 (.lt (.app 13400 (.cons V7 (.cons V13 (.cons N0 (.cons (.bin .cat .lnil (.lcons (.cons (.bin (.sub .i64) V11 V9) (.cons (.bin (.sub .i64) V12 V10) .nil)) .lnil)) .nil)))) 0) 3
 (.ret (.cons V16 .nil)))))))))
 (.need Tt (.pre 41 (.cons V0 (.cons V1 (.cons V2 (.cons V3 (.cons V4 (.cons V6 .nil)))))))
 (.lt (.app 41 (.cons V0 (.cons V1 (.cons V2 (.cons V3 (.cons V4 (.cons V6 .nil)))))) 0) 1
 (.need Tt (.pre 13400 (.cons V7 (.cons V9 (.cons N0 (.cons .lnil .nil)))))
 (.lt (.app 13400 (.cons V7 (.cons V9 (.cons N0 (.cons .lnil .nil)))) 0) 3
 (.ret (.cons V12 .nil)))))))))
theorem e34 : (fnVT Try.prog (sgOf sg34) (ltOf lt34) S34 Try.f34 c34).slim (S34.ps.map fun p => p.2.length).sum [] = vt34 := by kernel_rfl
def S64 : Sig := ⟨[(false, [Ty6]), (false, [i6]), (false, [i6])], [(false, [i6])], [], none⟩
noncomputable def c64 : Code := Try.f64.body.getD .skip
theorem b64 : Try.f64.body = some c64 := body_some (by kernel_rfl)
theorem n64 : (Try.f64.name == "runtime.NumGoroutine") = false := by kernel_rfl
def sg64 : List (FuncId × Sig) := []
def L64_0 : LoopSig := ⟨16400, [],
   ⟨[(.c (.x Ty6 V0)), .any, .any, .any, .any, .any, (.c (.x i6 V1)), (.c (.x i6 V2)), .any, .any, .any, .any, .any, .any, .any, .any, .any, .any, .any, .any, .any, .any, .any, .any, .any, .any, .any, .any, .any, .any, .any, .any, .any, .any, .any, .any, .any, .any, .any, .any, .any, .any, .any, .any, .any, .any, .any, .any, .any, .any, .any, .any, .any, .any, .any, .any, .any, .any, .any, .any, .any],
    []⟩,
   3, [1, 2], [8, 9, 10, 11, 14, 15, 16, 17, 18, 19, 20, 21, 22, 23, 24, 25, 26, 27, 28, 29, 30, 31, 32, 33, 34, 35, 36, 37, 38, 39, 40, 41, 42, 43, 6, 12, 13, 7], [.ret, (.exit 0)], []⟩
def lt64 : List (Nat × LoopSig) := [(2, L64_0)]
theorem k64 : (Code.loops c64).length = 1 := by kernel_rfl
noncomputable def lb64_0 : Code := (Code.loops c64).getD 0 .skip
def rt64_0 : VT :=
 (.ite (.bin .lt V2 (.un .len V0))
 (.need Tt (.c (.bin .le N0 V2))
 (.ite (.ite (.ite (.ite (.bin .lt (.sel 0 V0 V2) N0) Tt (.bin .lt (.n 1048576) (.sel 0 V0 V2))) Tt (.bin .lt (.sel 1 V0 V2) N0)) Tt (.bin .lt (.n 1048576) (.sel 1 V0 V2)))
 (.ret (.cons N0 (.cons (.n 1) (.cons V2 .nil))))
 (.ret (.cons (.n (-1)) (.cons V1 (.cons (.bin (.add .i64) V2 (.n 1)) .nil))))))
 (.ret (.cons (.n 1) (.cons V1 (.cons V2 .nil)))))
theorem le64_0 : (loopVT Try.prog (sgOf sg64) (ltOf lt64) L64_0 lb64_0).slim L64_0.nv [] = rt64_0 := by kernel_rfl
theorem lf64_0 : (firstRegion lb64_0).bind (ltOf lt64) = some L64_0 := by kernel_rfl
theorem lk64_0 : (Code.loops lb64_0).length = 0 := by kernel_rfl
def vt64 : VT :=
 (.need Tt (.pre 16400 (.cons V0 (.cons N0 (.cons N0 .nil))))
 (.lt (.app 16400 (.cons V0 (.cons N0 (.cons N0 .nil))) 0) 3
 (.ite (.bin .eq V3 N0)
 (.ret (.cons V4 .nil))
 (.ite (.ite (.ite (.ite (.bin .lt V1 N0) Tt (.bin .lt (.n 268435456) V1)) Tt (.bin .lt V2 N0)) Tt (.bin .lt (.n 1048576) V2))
 (.ret (.cons (.n 1) .nil))
 (.ite (.bin .lt (.n 64) (.un .len V0))
 (.ret (.cons (.n 2) .nil))
 (.ret (.cons N0 .nil)))))))
theorem e64 : (fnVT Try.prog (sgOf sg64) (ltOf lt64) S64 Try.f64 c64).slim (S64.ps.map fun p => p.2.length).sum [] = vt64 := by kernel_rfl
def S65 : Sig := ⟨[(false, [Ty6]), (false, [i6]), (false, [i6])], [(false, [Ty3]), (false, [i6])], [], none⟩
noncomputable def c65 : Code := Try.f65.body.getD .skip
theorem b65 : Try.f65.body = some c65 := body_some (by kernel_rfl)
theorem n65 : (Try.f65.name == "runtime.NumGoroutine") = false := by kernel_rfl
def sg65 : List (FuncId × Sig) := [(64, S64)]
def L65_0 : LoopSig := ⟨16500, [(9, none, 40)],
   ⟨[(.c (.x Ty6 V0)), (.c (.x i6 V1)), (.c (.x i6 V2)), .any, .any, .any, .any, .any, .any, (.c (.row 0 1)), (.c (.x i6 V3)), (.c (.x i6 V4)), (.c (.x i6 V5)), (.c (.x i6 V6)), .any, .any, .any, .any, .any, .any, .any, .any, .any, .any, .any, .any, .any, .any, .any, .any, .any, .any, .any, .any, .any, .any, .any, .any, .any, .any, .any, .any, .any, .any, .any, .any, .any, .any, .any, .any, .any, .any, .any, .any, .any, .any, .any, .any, .any, .any, .any, .any, .any, .any, .any, .any, .any, .any, .any, .any, .any, .any, .any, .any, .any],
    [some ⟨Tt, (.row 40 [i6, i6, i6, i6] V7 1 false)⟩]⟩,
   8, [3, 4, 5, 6, 7], [22, 23, 24, 25, 28, 29, 30, 31, 32, 33, 34, 35, 36, 37, 38, 39, 40, 10, 41, 42, 43, 11, 44, 12, 45, 46, 47, 48, 49, 50, 51, 52, 53, 54, 55, 56, 57, 58, 59, 60, 61, 14, 62, 63, 64, 65, 66, 67, 68, 69, 9, 70, 71, 72, 73, 26, 27, 13], [(.exit 0)], [7]⟩
def lt65 : List (Nat × LoopSig) := [(7, L65_0)]
theorem k65 : (Code.loops c65).length = 1 := by kernel_rfl
noncomputable def lb65_0 : Code := (Code.loops c65).getD 0 .skip
def rt65_0 : VT :=
 (.ite (.bin .lt V6 (.un .len V0))
 (.need (.bin .lt N0 V6) (.c (.bin .le N0 V6))
 (.ite (.ite (.bin .lt N0 V6) (.bin .lt V1 (.bin (.add .i64) V3 (.sel 0 V0 V6))) (.t false))
 (.need Tt (.c (.bin .le N0 V6))
 (.need Tt (.c (.bin .le (.un .len (.bin .cat V7 (.lcons (.cons N0 (.cons (.bin (.add .i64) V5 V2) (.cons (.bin (.add .i64) N0 (.sel 0 V0 V6)) (.cons (.bin (.add .i64) (.bin (.add .i64) V5 V2) (.sel 1 V0 V6)) .nil)))) .lnil))) (.n 4398046511104)))
 (.ret (.cons (.n (-1)) (.cons (.bin (.add .i64) (.bin (.add .i64) N0 (.sel 0 V0 V6)) V2) (.cons (.bin (.add .i64) V5 V2) (.cons (.bin .max (.bin (.add .i64) V5 V2) (.bin (.add .i64) (.bin (.add .i64) V5 V2) (.sel 1 V0 V6))) (.cons (.bin (.add .i64) V6 (.n 1)) (.cons (.bin .cat V7 (.lcons (.cons N0 (.cons (.bin (.add .i64) V5 V2) (.cons (.bin (.add .i64) N0 (.sel 0 V0 V6)) (.cons (.bin (.add .i64) (.bin (.add .i64) V5 V2) (.sel 1 V0 V6)) .nil)))) .lnil)) .nil)))))))))
 (.need Tt (.c (.bin .le N0 V6))
 (.need Tt (.c (.bin .le (.un .len (.bin .cat V7 (.lcons (.cons V3 (.cons V4 (.cons (.bin (.add .i64) V3 (.sel 0 V0 V6)) (.cons (.bin (.add .i64) V4 (.sel 1 V0 V6)) .nil)))) .lnil))) (.n 4398046511104)))
 (.ret (.cons (.n (-1)) (.cons (.bin (.add .i64) (.bin (.add .i64) V3 (.sel 0 V0 V6)) V2) (.cons V4 (.cons (.bin .max V5 (.bin (.add .i64) V4 (.sel 1 V0 V6))) (.cons (.bin (.add .i64) V6 (.n 1)) (.cons (.bin .cat V7 (.lcons (.cons V3 (.cons V4 (.cons (.bin (.add .i64) V3 (.sel 0 V0 V6)) (.cons (.bin (.add .i64) V4 (.sel 1 V0 V6)) .nil)))) .lnil)) .nil)))))))))))
 (.ret (.cons N0 (.cons V3 (.cons V4 (.cons V5 (.cons V6 (.cons V7 .nil))))))))
theorem le65_0 : (loopVT Try.prog (sgOf sg65) (ltOf lt65) L65_0 lb65_0).slim L65_0.nv [] = rt65_0 := by kernel_rfl
theorem lf65_0 : (firstRegion lb65_0).bind (ltOf lt65) = some L65_0 := by kernel_rfl
theorem lk65_0 : (Code.loops lb65_0).length = 0 := by kernel_rfl
def vt65 : VT :=
 (.need Tt (.pre 64 (.cons V0 (.cons V1 (.cons V2 .nil))))
 (.lt (.app 64 (.cons V0 (.cons V1 (.cons V2 .nil))) 0) 1
 (.ite (.un .not (.bin .eq V3 N0))
 (.ret (.cons .lnil (.cons V3 .nil)))
 (.need Tt (.pre 16500 (.cons V0 (.cons V1 (.cons V2 (.cons N0 (.cons N0 (.cons N0 (.cons N0 (.cons .lnil .nil)))))))))
 (.lt (.app 16500 (.cons V0 (.cons V1 (.cons V2 (.cons N0 (.cons N0 (.cons N0 (.cons N0 (.cons .lnil .nil)))))))) 0) 6
 (.ret (.cons V9 (.cons N0 .nil))))))))
theorem e65 : (fnVT Try.prog (sgOf sg65) (ltOf lt65) S65 Try.f65 c65).slim (S65.ps.map fun p => p.2.length).sum [] = vt65 := by kernel_rfl
def S66 : Sig := ⟨[(false, [Ty3])], [(false, [i6])], [], none⟩
noncomputable def c66 : Code := Try.f66.body.getD .skip
theorem b66 : Try.f66.body = some c66 := body_some (by kernel_rfl)
theorem n66 : (Try.f66.name == "runtime.NumGoroutine") = false := by kernel_rfl
def sg66 : List (FuncId × Sig) := []
def L66_0 : LoopSig := ⟨16600, [],
   ⟨[(.c (.x Ty3 V0)), .any, .any, (.c (.x i6 V1)), (.c (.x i6 V2)), .any, .any, .any, .any, .any, .any, .any, .any, .any, .any, .any, .any, .any, .any, .any, .any, .any, .any, .any],
    []⟩,
   3, [1, 2], [5, 6, 7, 8, 11, 12, 13, 14, 15, 16, 17, 18, 19, 20, 21, 22, 3, 9, 10, 4], [(.exit 0)], []⟩
def lt66 : List (Nat × LoopSig) := [(3, L66_0)]
theorem k66 : (Code.loops c66).length = 1 := by kernel_rfl
noncomputable def lb66_0 : Code := (Code.loops c66).getD 0 .skip
def rt66_0 : VT :=
 (.ite (.bin .lt V2 (.un .len V0))
 (.need Tt (.c (.bin .le N0 V2))
 (.ret (.cons (.n (-1)) (.cons (.bin .max (.bin .max V1 (.sel 2 V0 V2)) (.sel 3 V0 V2)) (.cons (.bin (.add .i64) V2 (.n 1)) .nil)))))
 (.ret (.cons N0 (.cons V1 (.cons V2 .nil)))))
theorem le66_0 : (loopVT Try.prog (sgOf sg66) (ltOf lt66) L66_0 lb66_0).slim L66_0.nv [] = rt66_0 := by kernel_rfl
theorem lf66_0 : (firstRegion lb66_0).bind (ltOf lt66) = some L66_0 := by kernel_rfl
theorem lk66_0 : (Code.loops lb66_0).length = 0 := by kernel_rfl
def vt66 : VT :=
 (.need Tt (.pre 16600 (.cons V0 (.cons N0 (.cons N0 .nil))))
 (.lt (.app 16600 (.cons V0 (.cons N0 (.cons N0 .nil))) 0) 3
 (.ret (.cons V2 .nil))))
theorem e66 : (fnVT Try.prog (sgOf sg66) (ltOf lt66) S66 Try.f66 c66).slim (S66.ps.map fun p => p.2.length).sum [] = vt66 := by kernel_rfl
def S33 : Sig := ⟨[(false, [Ty6]), (false, [i6])], [(false, [Ty3]), (false, [i6])], [], none⟩
noncomputable def c33 : Code := Try.f33.body.getD .skip
theorem b33 : Try.f33.body = some c33 := body_some (by kernel_rfl)
theorem n33 : (Try.f33.name == "runtime.NumGoroutine") = false := by kernel_rfl
def sg33 : List (FuncId × Sig) := [(64, S64), (65, S65), (66, S66)]
def L33_0 : LoopSig := ⟨13300, [],
   ⟨[(.c (.x Ty6 V0)), (.c (.x i6 V1)), .any, .any, .any, .any, .any, (.c (.x Ty3 V2)), (.c (.x i6 V3)), (.c (.x i6 V4)), .any, .any, .any, .any, .any, .any, .any, .any, .any, .any, .any, .any, .any, .any, .any, .any, .any, .any, .any, .any, .any, .any, .any, .any, .any, .any, .any, .any, .any, .any, .any, .any, .any, .any, .any, .any, .any, .any, .any, .any, .any, .any, .any, .any],
    []⟩,
   5, [2, 3, 4], [18, 19, 20, 21, 24, 25, 26, 27, 28, 8, 29, 30, 31, 32, 33, 34, 35, 37, 38, 39, 40, 36, 41, 42, 10, 11, 43, 44, 45, 46, 47, 48, 49, 50, 51, 52, 7, 22, 23, 9], [(.exit 0)], []⟩
def lt33 : List (Nat × LoopSig) := [(7, L33_0)]
theorem k33 : (Code.loops c33).length = 1 := by kernel_rfl
noncomputable def lb33_0 : Code := (Code.loops c33).getD 0 .skip
def rt33_0 : VT :=
 (.ite (.bin .lt V4 (.un .len V0))
 (.ite (.bin .lt N0 V4)
 (.need Tt (.c (.bin .le N0 V4))
 (.need Tt (.pre 65 (.cons V0 (.cons (.bin (.add .i64) (.bin (.add .i64) V3 V1) (.sel 0 V0 V4)) (.cons V1 .nil))))
 (.lt (.app 65 (.cons V0 (.cons (.bin (.add .i64) (.bin (.add .i64) V3 V1) (.sel 0 V0 V4)) (.cons V1 .nil))) 0) 2
 (.need (.un .not (.bin .eq V4 N0)) (.pre 66 (.cons V5 .nil))
 (.lt (.app 66 (.cons V5 .nil) 0) 1
 (.need (.un .not (.bin .eq V4 N0)) (.pre 66 (.cons V2 .nil))
 (.lt (.app 66 (.cons V2 .nil) 0) 1
 (.ite (.ite (.bin .eq V4 N0) Tt (.bin .lt V7 V8))
 (.ret (.cons (.n (-1)) (.cons V5 (.cons (.bin (.add .i64) (.bin (.add .i64) V3 V1) (.sel 0 V0 V4)) (.cons (.bin (.add .i64) V4 (.n 1)) .nil)))))
 (.ret (.cons (.n (-1)) (.cons V2 (.cons (.bin (.add .i64) (.bin (.add .i64) V3 V1) (.sel 0 V0 V4)) (.cons (.bin (.add .i64) V4 (.n 1)) .nil)))))))))))))
 (.need Tt (.c (.bin .le N0 V4))
 (.need Tt (.pre 65 (.cons V0 (.cons (.bin (.add .i64) V3 (.sel 0 V0 V4)) (.cons V1 .nil))))
 (.lt (.app 65 (.cons V0 (.cons (.bin (.add .i64) V3 (.sel 0 V0 V4)) (.cons V1 .nil))) 0) 2
 (.need (.un .not (.bin .eq V4 N0)) (.pre 66 (.cons V5 .nil))
 (.lt (.app 66 (.cons V5 .nil) 0) 1
 (.need (.un .not (.bin .eq V4 N0)) (.pre 66 (.cons V2 .nil))
 (.lt (.app 66 (.cons V2 .nil) 0) 1
 (.ite (.ite (.bin .eq V4 N0) Tt (.bin .lt V7 V8))
 (.ret (.cons (.n (-1)) (.cons V5 (.cons (.bin (.add .i64) V3 (.sel 0 V0 V4)) (.cons (.bin (.add .i64) V4 (.n 1)) .nil)))))
 (.ret (.cons (.n (-1)) (.cons V2 (.cons (.bin (.add .i64) V3 (.sel 0 V0 V4)) (.cons (.bin (.add .i64) V4 (.n 1)) .nil))))))))))))))
 (.ret (.cons N0 (.cons V2 (.cons V3 (.cons V4 .nil))))))
theorem le33_0 : (loopVT Try.prog (sgOf sg33) (ltOf lt33) L33_0 lb33_0).slim L33_0.nv [] = rt33_0 := by kernel_rfl
theorem lf33_0 : (firstRegion lb33_0).bind (ltOf lt33) = some L33_0 := by kernel_rfl
theorem lk33_0 : (Code.loops lb33_0).length = 0 := by kernel_rfl
def vt33 : VT :=
 (.need Tt (.pre 64 (.cons V0 (.cons N0 (.cons V1 .nil))))
 (.lt (.app 64 (.cons V0 (.cons N0 (.cons V1 .nil))) 0) 1
 (.ite (.un .not (.bin .eq V2 N0))
 (.ret (.cons .lnil (.cons V2 .nil)))
 (.need Tt (.pre 13300 (.cons V0 (.cons V1 (.cons .lnil (.cons N0 (.cons N0 .nil))))))
 (.lt (.app 13300 (.cons V0 (.cons V1 (.cons .lnil (.cons N0 (.cons N0 .nil))))) 0) 4
 (.ret (.cons V4 (.cons N0 .nil))))))))
theorem e33 : (fnVT Try.prog (sgOf sg33) (ltOf lt33) S33 Try.f33 c33).slim (S33.ps.map fun p => p.2.length).sum [] = vt33 := by kernel_rfl
def S13 : Sig := ⟨[(true, [.str, .bool, Ty0, Ty2, Ty5]), (true, [i6, i6, i6, i6, i6]), (false, [Ty3])], [(false, [Ty3]), (false, [i6])], [], none⟩
noncomputable def c13 : Code := Try.f13.body.getD .skip
theorem b13 : Try.f13.body = some c13 := body_some (by kernel_rfl)
theorem n13 : (Try.f13.name == "runtime.NumGoroutine") = false := by kernel_rfl
def sg13 : List (FuncId × Sig) := [(32, S32), (34, S34), (33, S33), (35, S35), (36, S36)]
def L13_0 : LoopSig := ⟨11300, [],
   ⟨[.any, .any, (.c (.x Ty3 V0)), (.c (.ptr 0 0)), (.c (.ptr 1 0)), .any, (.c (.x Ty3 V1)), (.c (.x i6 V2)), .any, (.c (.row 2 1)), (.c (.x i6 V3)), .any, .any, .any, .any, .any, .any, .any, .any, .any, .any, .any, .any, .any, .any, .any, .any, .any, .any, .any, .any, .any, .any, .any, .any, .any, .any, .any, .any, .any, .any, .any, .any, .any, .any, .any, .any, .any, .any, .any, .any, .any, .any, .any, .any, .any, .any, .any, .any, .any, .any, .any, .any, .any, .any, .any, .any, .any, .any, .any, .any, .any, .any, .any, .any, .any, .any, .any, .any],
    [some ⟨Tt, (.box 26 [(.x .str V4), (.x .bool V5), (.x Ty0 V6), (.x Ty2 V7), (.x Ty5 V8)] false)⟩, some ⟨Tt, (.box 28 [(.x i6 V9), (.x i6 V10), (.x i6 V11), (.x i6 V12), (.x i6 V13)] false)⟩, some ⟨Tt, (.row 40 [i6, i6, i6, i6] V14 1 false)⟩]⟩,
   15, [1, 2, 3, 14], [29, 30, 34, 35, 36, 37, 38, 39, 40, 41, 33, 42, 43, 11, 12, 44, 45, 6, 7, 46, 47, 48, 49, 13, 50, 51, 52, 53, 54, 55, 56, 57, 58, 59, 60, 61, 62, 63, 64, 65, 66, 67, 68, 69, 70, 71, 72, 73, 74, 75, 76, 77, 31, 32, 10], [.ret, (.exit 0)], []⟩
def lt13 : List (Nat × LoopSig) := [(6, L13_0)]
theorem k13 : (Code.loops c13).length = 1 := by kernel_rfl
noncomputable def lb13_0 : Code := (Code.loops c13).getD 0 .skip
def rt13_0 : VT :=
 (.ite (.bin .le (.n (-1)) V3)
 (.need Tt (.pre 34 (.cons V4 (.cons V5 (.cons V6 (.cons V7 (.cons V8 (.cons V0 (.cons V3 (.cons V14 .nil)))))))))
 (.lt (.app 34 (.cons V4 (.cons V5 (.cons V6 (.cons V7 (.cons V8 (.cons V0 (.cons V3 (.cons V14 .nil)))))))) 0) 1
 (.need Tt (.pre 33 (.cons V15 (.cons V10 .nil)))
 (.lt (.app 33 (.cons V15 (.cons V10 .nil)) 0) 2
 (.ite (.un .not (.bin .eq V17 N0))
 (.ret (.cons N0 (.cons .lnil (.cons (.n 2) (.cons V3 (.cons V14 .nil))))))
 (.ite (.bin .lt V3 N0)
 (.ret (.cons (.n 1) (.cons V1 (.cons V2 (.cons V3 (.cons V14 .nil))))))
 (.need Tt (.pre 35 (.cons V16 .nil))
 (.lt (.app 35 (.cons V16 .nil) 0) 4
 (.need Tt (.c (.bin .le N0 V3))
 (.need Tt (.c (.bin .lt V3 (.un .len V14)))
 (.need Tt (.c (.bin .lt V3 (.un .len (.upd 0 V14 V3 (.cons N0 (.cons N0 (.cons (.bin (.add .i64) (.bin (.sub .i64) V20 V18) (.bin (.mul .i64) (.n 2) V12)) (.cons (.bin (.add .i64) (.bin (.sub .i64) V21 V19) (.bin (.mul .i64) (.n 2) V12)) .nil))))))))
 (.need Tt (.pre 36 (.cons (.sel 0 (.upd 0 V14 V3 (.cons N0 (.cons N0 (.cons (.bin (.add .i64) (.bin (.sub .i64) V20 V18) (.bin (.mul .i64) (.n 2) V12)) (.cons (.bin (.add .i64) (.bin (.sub .i64) V21 V19) (.bin (.mul .i64) (.n 2) V12)) .nil))))) V3) (.cons (.sel 1 (.upd 0 V14 V3 (.cons N0 (.cons N0 (.cons (.bin (.add .i64) (.bin (.sub .i64) V20 V18) (.bin (.mul .i64) (.n 2) V12)) (.cons (.bin (.add .i64) (.bin (.sub .i64) V21 V19) (.bin (.mul .i64) (.n 2) V12)) .nil))))) V3) (.cons (.sel 2 (.upd 0 V14 V3 (.cons N0 (.cons N0 (.cons (.bin (.add .i64) (.bin (.sub .i64) V20 V18) (.bin (.mul .i64) (.n 2) V12)) (.cons (.bin (.add .i64) (.bin (.sub .i64) V21 V19) (.bin (.mul .i64) (.n 2) V12)) .nil))))) V3) (.cons (.sel 3 (.upd 0 V14 V3 (.cons N0 (.cons N0 (.cons (.bin (.add .i64) (.bin (.sub .i64) V20 V18) (.bin (.mul .i64) (.n 2) V12)) (.cons (.bin (.add .i64) (.bin (.sub .i64) V21 V19) (.bin (.mul .i64) (.n 2) V12)) .nil))))) V3) .nil)))))
 (.lt (.app 36 (.cons (.sel 0 (.upd 0 V14 V3 (.cons N0 (.cons N0 (.cons (.bin (.add .i64) (.bin (.sub .i64) V20 V18) (.bin (.mul .i64) (.n 2) V12)) (.cons (.bin (.add .i64) (.bin (.sub .i64) V21 V19) (.bin (.mul .i64) (.n 2) V12)) .nil))))) V3) (.cons (.sel 1 (.upd 0 V14 V3 (.cons N0 (.cons N0 (.cons (.bin (.add .i64) (.bin (.sub .i64) V20 V18) (.bin (.mul .i64) (.n 2) V12)) (.cons (.bin (.add .i64) (.bin (.sub .i64) V21 V19) (.bin (.mul .i64) (.n 2) V12)) .nil))))) V3) (.cons (.sel 2 (.upd 0 V14 V3 (.cons N0 (.cons N0 (.cons (.bin (.add .i64) (.bin (.sub .i64) V20 V18) (.bin (.mul .i64) (.n 2) V12)) (.cons (.bin (.add .i64) (.bin (.sub .i64) V21 V19) (.bin (.mul .i64) (.n 2) V12)) .nil))))) V3) (.cons (.sel 3 (.upd 0 V14 V3 (.cons N0 (.cons N0 (.cons (.bin (.add .i64) (.bin (.sub .i64) V20 V18) (.bin (.mul .i64) (.n 2) V12)) (.cons (.bin (.add .i64) (.bin (.sub .i64) V21 V19) (.bin (.mul .i64) (.n 2) V12)) .nil))))) V3) .nil)))) 0) 1
 (.ite (.un .not V22)
 (.ret (.cons N0 (.cons .lnil (.cons (.n 2) (.cons V3 (.cons (.upd 0 V14 V3 (.cons N0 (.cons N0 (.cons (.bin (.add .i64) (.bin (.sub .i64) V20 V18) (.bin (.mul .i64) (.n 2) V12)) (.cons (.bin (.add .i64) (.bin (.sub .i64) V21 V19) (.bin (.mul .i64) (.n 2) V12)) .nil))))) .nil))))))
 (.ret (.cons (.n (-1)) (.cons V1 (.cons V2 (.cons (.bin (.sub .i64) V3 (.n 1)) (.cons (.upd 0 V14 V3 (.cons N0 (.cons N0 (.cons (.bin (.add .i64) (.bin (.sub .i64) V20 V18) (.bin (.mul .i64) (.n 2) V12)) (.cons (.bin (.add .i64) (.bin (.sub .i64) V21 V19) (.bin (.mul .i64) (.n 2) V12)) .nil))))) .nil))))))))))))))))))))
 (.ret (.cons (.n 1) (.cons V1 (.cons V2 (.cons V3 (.cons V14 .nil)))))))
theorem le13_0 : (loopVT Try.prog (sgOf sg13) (ltOf lt13) L13_0 lb13_0).slim L13_0.nv [] = rt13_0 := by kernel_rfl
theorem lf13_0 : (firstRegion lb13_0).bind (ltOf lt13) = some L13_0 := by kernel_rfl
theorem lk13_0 : (Code.loops lb13_0).length = 0 := by kernel_rfl
def vt13 : VT :=
 (.need Tt (.pre 32 (.cons V0 (.cons V1 (.cons V2 (.cons V3 (.cons V4 (.cons V5 (.cons V6 (.cons V7 (.cons V8 (.cons V9 (.cons V10 .nil))))))))))))
 (.lt (.app 32 (.cons V0 (.cons V1 (.cons V2 (.cons V3 (.cons V4 (.cons V5 (.cons V6 (.cons V7 (.cons V8 (.cons V9 (.cons V10 .nil))))))))))) 0) 1
 (.ite (.un .not (.bin .eq V11 N0))
 (.ret (.cons .lnil (.cons V11 .nil)))
 (.need Tt (.c (.bin .le (.un .len V4) (.n 4398046511104)))
 (.need Tt (.pre 11300 (.cons V10 (.cons .lnil (.cons N0 (.cons (.bin (.sub .i64) (.un .len V4) (.n 1)) (.cons V0 (.cons V1 (.cons V2 (.cons V3 (.cons V4 (.cons V5 (.cons V6 (.cons V7 (.cons V8 (.cons V9 (.cons (.rep (.un .len V4) (.cons N0 (.cons N0 (.cons N0 (.cons N0 .nil))))) .nil))))))))))))))))
 (.lt (.app 11300 (.cons V10 (.cons .lnil (.cons N0 (.cons (.bin (.sub .i64) (.un .len V4) (.n 1)) (.cons V0 (.cons V1 (.cons V2 (.cons V3 (.cons V4 (.cons V5 (.cons V6 (.cons V7 (.cons V8 (.cons V9 (.cons (.rep (.un .len V4) (.cons N0 (.cons N0 (.cons N0 (.cons N0 .nil))))) .nil))))))))))))))) 0) 5
 (.ite (.bin .eq V12 N0)
 (.ret (.cons V13 (.cons V14 .nil)))
 (.ret (.cons V16 (.cons N0 .nil))))))))))
theorem e13 : (fnVT Try.prog (sgOf sg13) (ltOf lt13) S13 Try.f13 c13).slim (S13.ps.map fun p => p.2.length).sum [] = vt13 := by kernel_rfl
def S4 : Sig := ⟨[(true, [.str, .bool, Ty0, Ty2, Ty5]), (true, [i6, i6, i6, i6, i6]), (false, [Ty3])], [(false, [.bool])], [], none⟩
noncomputable def c4 : Code := Try.f4.body.getD .skip
theorem b4 : Try.f4.body = some c4 := body_some (by kernel_rfl)
def sg4 : List (FuncId × Sig) := [(8, S8), (9, S9), (12, S12), (13, S13), (14, S14)]
def lt4 : List (Nat × LoopSig) := []
theorem k4 : (Code.loops c4).length = 0 := by kernel_rfl
def vt4 : VT :=
 (.need Tt (.pre 8 (.cons V0 (.cons V1 (.cons V2 (.cons V3 (.cons V4 (.cons (.n 8) (.cons (.n 6) .nil))))))))
 (.lt (.app 8 (.cons V0 (.cons V1 (.cons V2 (.cons V3 (.cons V4 (.cons (.n 8) (.cons (.n 6) .nil))))))) 0) 1
 (.ite (.ite (.un .not V11) Tt (.bin .lt (.n 10) (.un .len V10)))
 (.need Tt (.pre 9 .nil)
 (.lt (.app 9 .nil 0) 1
 (.ret (.cons V12 .nil))))
 (.need Tt (.pre 12 (.cons V0 (.cons V1 (.cons V2 (.cons V3 (.cons V4 (.cons V5 (.cons V6 (.cons V7 (.cons V8 (.cons V9 (.cons V10 .nil))))))))))))
 (.lt (.app 12 (.cons V0 (.cons V1 (.cons V2 (.cons V3 (.cons V4 (.cons V5 (.cons V6 (.cons V7 (.cons V8 (.cons V9 (.cons V10 .nil))))))))))) 0) 2
 (.need Tt (.pre 13 (.cons V0 (.cons V1 (.cons V2 (.cons V3 (.cons V4 (.cons V5 (.cons V6 (.cons V7 (.cons V8 (.cons V9 (.cons V10 .nil))))))))))))
 (.lt (.app 13 (.cons V0 (.cons V1 (.cons V2 (.cons V3 (.cons V4 (.cons V5 (.cons V6 (.cons V7 (.cons V8 (.cons V9 (.cons V10 .nil))))))))))) 0) 2
 (.need Tt (.pre 14 (.cons V12 (.cons V14 .nil)))
 (.lt (.app 14 (.cons V12 (.cons V14 .nil)) 0) 1
 (.need (.ite V16 (.bin .eq V13 V15) (.t false)) (.pre 9 .nil)
 (.lt (.app 9 .nil 0) 1
 (.ret (.cons (.ite (.ite V16 (.bin .eq V13 V15) (.t false)) V17 (.t false)) .nil)))))))))))))
theorem e4 : (fnVT Try.prog (sgOf sg4) (ltOf lt4) S4 Try.f4 c4).slim (S4.ps.map fun p => p.2.length).sum [] = vt4 := by kernel_rfl
def S40 : Sig := ⟨[(true, [i6, i6, i6, i6]), (false, [i6]), (false, [i6])], [(true, [i6, i6, i6, i6])], [], none⟩
noncomputable def c40 : Code := Try.f40.body.getD .skip
theorem b40 : Try.f40.body = some c40 := body_some (by kernel_rfl)
theorem n40 : (Try.f40.name == "runtime.NumGoroutine") = false := by kernel_rfl
def sg40 : List (FuncId × Sig) := []
def lt40 : List (Nat × LoopSig) := []
theorem k40 : (Code.loops c40).length = 0 := by kernel_rfl
def vt40 : VT :=
 (.ret (.cons (.bin (.add .i64) V0 V4) (.cons (.bin (.add .i64) V1 V5) (.cons (.bin (.add .i64) V2 V4) (.cons (.bin (.add .i64) V3 V5) .nil)))))
theorem e40 : (fnVT Try.prog (sgOf sg40) (ltOf lt40) S40 Try.f40 c40).slim (S40.ps.map fun p => p.2.length).sum [] = vt40 := by kernel_rfl
def T40 : FuncId → List D → List D := tabOf []
def fn40 (ρ : List D) : List D := vt40.val T40 ρ
theorem m40 : Meets Try.prog 40 S40 (fun _ => True) fn40 := meets_easy (sgl := sg40) (Φ := T40) mixed ((fun _ h => nomatch h)) Try.func40 b40 n40 k40 e40 (by kernel_rfl)
def S15 : Sig := ⟨[(true, [.str, .bool, Ty0, Ty2, Ty5]), (true, [i6, i6, i6, i6, i6]), (false, [Ty3])], [(false, [Ty3]), (false, [Ty3]), (false, [i6])], [], none⟩
noncomputable def c15 : Code := Try.f15.body.getD .skip
theorem b15 : Try.f15.body = some c15 := body_some (by kernel_rfl)
theorem n15 : (Try.f15.name == "runtime.NumGoroutine") = false := by kernel_rfl
def sg15 : List (FuncId × Sig) := [(13, S13), (34, S34), (33, S33), (38, S38), (39, S39), (40, S40), (41, S41), (36, S36)]
def L15_0 : LoopSig := ⟨11502, [],
   ⟨[.any, .any, (.c (.x Ty3 V0)), (.c (.ptr 0 0)), (.c (.ptr 1 0)), .any, .any, .any, .any, (.c (.x Ty3 V1)), .any, (.c (.row 2 1)), (.c (.row 3 1)), (.c (.x i6 V2)), .any, .any, .any, .any, .any, .any, .any, .any, .any, .any, .any, .any, .any, .any, .any, .any, .any, .any, .any, .any, .any, .any, .any, .any, .any, .any, .any, .any, .any, .any, .any, .any, .any, .any, .any, .any, .any, .any, .any, .any, .any, .any, .any, .any, .any, .any, .any, .any, .any, .any, .any, .any, .any, .any, .any, .any, .any, .any, .any, .any, .any, .any, .any, .any, .any, .any, .any, .any, .any, .any, .any, .any, .any, .any, .any, .any, .any, .any, .any, .any, .any, .any, .any, .any, .any, .any, .any, .any, .any, .any, .any, .any, .any, .any, .any, .any, .any, .any, .any, .any, .any, .any, .any, .any, .any, .any, .any, .any, .any, .any, .any, .any, .any, .any, .any, .any, .any, .any, .any, .any, .any, .any, .any, .any, .any, .any, .any, .any, .any, .any, .any, .any, .any, .any, .any, .any, .any, .any, .any, .any, .any, .any, .any, .any, .any, .any, .any, .any, .any, .any, .any, .any, .any, .any, .any, .any, .any, .any, .any, .any, .any, .any, .any, .any],
    [some ⟨Tt, (.box 26 [(.x .str V3), (.x .bool V4), (.x Ty0 V5), (.x Ty2 V6), (.x Ty5 V7)] false)⟩, some ⟨Tt, (.box 28 [(.x i6 V8), (.x i6 V9), (.x i6 V10), (.x i6 V11), (.x i6 V12)] false)⟩, some ⟨Tt, (.row 40 [i6, i6, i6, i6] V13 1 false)⟩, some ⟨Tt, (.row 40 [i6, i6, i6, i6] V14 1 false)⟩]⟩,
   15, [2, 13, 14], [44, 45, 46, 47, 48, 14, 15, 51, 52, 53, 54, 55, 56, 57, 58, 59, 60, 61, 62, 63, 64, 65, 66, 67, 68, 70, 71, 72, 73, 74, 75, 76, 77, 69, 78, 79, 16, 17, 18, 80, 81, 82, 19, 83, 84, 85, 86, 87, 88, 89, 20, 21, 90, 91, 92, 93, 96, 97, 98, 99, 100, 101, 102, 103, 104, 105, 106, 107, 108, 109, 110, 111, 112, 113, 114, 115, 116, 117, 118, 119, 120, 121, 122, 123, 124, 125, 126, 127, 94, 95, 128, 129, 130, 22, 23, 131, 132, 133, 134, 137, 138, 139, 140, 141, 142, 143, 144, 145, 146, 147, 148, 149, 150, 151, 135, 136, 49, 50, 13], [(.exit 0)], []⟩
def L15_1 : LoopSig := ⟨11500, [],
   ⟨[.any, .any, (.c (.x Ty3 V0)), .any, .any, .any, .any, .any, .any, .any, .any, (.c (.row 2 1)), .any, .any, (.c (.x i6 V1)), (.c (.x i6 V2)), (.c (.x Ty3 V3)), .any, .any, (.c (.x Ty7 V4)), (.c (.ptr 5 0)), (.c (.x i6 V5)), .any, .any, .any, .any, .any, .any, .any, .any, .any, .any, .any, .any, .any, .any, .any, .any, .any, .any, .any, .any, .any, .any, .any, .any, .any, .any, .any, .any, .any, .any, .any, .any, .any, .any, .any, .any, .any, .any, .any, .any, .any, .any, .any, .any, .any, .any, .any, .any, .any, .any, .any, .any, .any, .any, .any, .any, .any, .any, .any, .any, .any, .any, .any, .any, .any, .any, .any, .any, .any, .any, .any, .any, .any, .any, .any, .any, .any, .any, .any, .any, .any, .any, .any, .any, .any, .any, .any, .any, .any, .any, .any, .any, .any, .any, .any, .any, .any, .any, .any, .any, .any, .any, .any, .any, .any, .any, .any, .any, .any, .any, .any, .any, .any, .any, .any, .any, .any, .any, .any, .any, .any, .any, .any, .any, .any, .any, .any, .any, .any, .any, .any, .any, .any, .any, .any, .any, .any, .any, .any, .any, .any, .any, .any, .any, .any, .any, .any, .any, .any, .any, .any, .any, .any, .any, .any, .any],
    [none, none, some ⟨Tt, (.row 40 [i6, i6, i6, i6] V6 1 false)⟩, none, none, some ⟨Tt, (.box 40 [(.x i6 V7), (.x i6 V8), (.x i6 V9), (.x i6 V10)] false)⟩]⟩,
   11, [5, 6], [90, 91, 92, 93, 96, 97, 98, 99, 100, 101, 102, 103, 104, 105, 106, 107, 108, 109, 110, 111, 112, 113, 114, 115, 116, 117, 118, 119, 120, 121, 122, 123, 124, 125, 126, 127, 94, 95, 21], [(.exit 2)], []⟩
def L15_2 : LoopSig := ⟨11501, [],
   ⟨[.any, .any, .any, .any, .any, .any, .any, .any, .any, .any, .any, .any, (.c (.row 3 1)), .any, (.c (.x i6 V0)), (.c (.x i6 V1)), (.c (.x Ty3 V2)), .any, (.c (.x i6 V3)), .any, .any, .any, (.c (.x Ty7 V4)), (.c (.x i6 V5)), .any, .any, .any, .any, .any, .any, .any, .any, .any, .any, .any, .any, .any, .any, .any, .any, .any, .any, .any, .any, .any, .any, .any, .any, .any, .any, .any, .any, .any, .any, .any, .any, .any, .any, .any, .any, .any, .any, .any, .any, .any, .any, .any, .any, .any, .any, .any, .any, .any, .any, .any, .any, .any, .any, .any, .any, .any, .any, .any, .any, .any, .any, .any, .any, .any, .any, .any, .any, .any, .any, .any, .any, .any, .any, .any, .any, .any, .any, .any, .any, .any, .any, .any, .any, .any, .any, .any, .any, .any, .any, .any, .any, .any, .any, .any, .any, .any, .any, .any, .any, .any, .any, .any, .any, .any, .any, .any, .any, .any, .any, .any, .any, .any, .any, .any, .any, .any, .any, .any, .any, .any, .any, .any, .any, .any, .any, .any, .any, .any, .any, .any, .any, .any, .any, .any, .any, .any, .any, .any, .any, .any, .any, .any, .any, .any, .any, .any, .any, .any, .any, .any, .any, .any, .any],
    [none, none, none, some ⟨Tt, (.row 40 [i6, i6, i6, i6] V6 1 false)⟩]⟩,
   7, [5, 6], [131, 132, 133, 134, 137, 138, 139, 140, 141, 142, 143, 144, 145, 146, 147, 148, 149, 150, 151, 135, 136, 23], [(.exit 4)], []⟩
def L15_3 : LoopSig := ⟨11503, [],
   ⟨[.any, .any, .any, .any, .any, .any, (.c (.x Ty3 V0)), (.c (.x Ty3 V1)), (.c (.x i6 V2)), .any, .any, (.c (.row 2 1)), .any, .any, .any, .any, .any, .any, .any, .any, .any, .any, .any, .any, (.c (.x i6 V3)), .any, .any, .any, .any, .any, .any, .any, .any, .any, .any, .any, .any, .any, .any, .any, .any, .any, .any, .any, .any, .any, .any, .any, .any, .any, .any, .any, .any, .any, .any, .any, .any, .any, .any, .any, .any, .any, .any, .any, .any, .any, .any, .any, .any, .any, .any, .any, .any, .any, .any, .any, .any, .any, .any, .any, .any, .any, .any, .any, .any, .any, .any, .any, .any, .any, .any, .any, .any, .any, .any, .any, .any, .any, .any, .any, .any, .any, .any, .any, .any, .any, .any, .any, .any, .any, .any, .any, .any, .any, .any, .any, .any, .any, .any, .any, .any, .any, .any, .any, .any, .any, .any, .any, .any, .any, .any, .any, .any, .any, .any, .any, .any, .any, .any, .any, .any, .any, .any, .any, .any, .any, .any, .any, .any, .any, .any, .any, .any, .any, .any, .any, .any, .any, .any, .any, .any, .any, .any, .any, .any, .any, .any, .any, .any, .any, .any, .any, .any, .any, .any, .any, .any, .any],
    [none, none, some ⟨Tt, (.row 40 [i6, i6, i6, i6] V4 1 false)⟩]⟩,
   5, [0, 1, 2, 3], [152, 153, 154, 155, 158, 159, 160, 161, 162, 163, 6, 7, 8, 156, 157, 24], [.ret, (.exit 6)], []⟩
def L15_4 : LoopSig := ⟨11504, [],
   ⟨[.any, .any, .any, .any, .any, .any, (.c (.x Ty3 V0)), (.c (.x Ty3 V1)), (.c (.x i6 V2)), .any, .any, .any, (.c (.row 3 1)), .any, .any, .any, .any, .any, .any, .any, .any, .any, .any, .any, .any, (.c (.x i6 V3)), .any, .any, .any, .any, .any, .any, .any, .any, .any, .any, .any, .any, .any, .any, .any, .any, .any, .any, .any, .any, .any, .any, .any, .any, .any, .any, .any, .any, .any, .any, .any, .any, .any, .any, .any, .any, .any, .any, .any, .any, .any, .any, .any, .any, .any, .any, .any, .any, .any, .any, .any, .any, .any, .any, .any, .any, .any, .any, .any, .any, .any, .any, .any, .any, .any, .any, .any, .any, .any, .any, .any, .any, .any, .any, .any, .any, .any, .any, .any, .any, .any, .any, .any, .any, .any, .any, .any, .any, .any, .any, .any, .any, .any, .any, .any, .any, .any, .any, .any, .any, .any, .any, .any, .any, .any, .any, .any, .any, .any, .any, .any, .any, .any, .any, .any, .any, .any, .any, .any, .any, .any, .any, .any, .any, .any, .any, .any, .any, .any, .any, .any, .any, .any, .any, .any, .any, .any, .any, .any, .any, .any, .any, .any, .any, .any, .any, .any, .any, .any, .any, .any, .any],
    [none, none, none, some ⟨Tt, (.row 40 [i6, i6, i6, i6] V4 1 false)⟩]⟩,
   5, [0, 1, 2, 3], [164, 165, 166, 167, 170, 171, 172, 173, 174, 175, 6, 7, 8, 168, 169, 25], [.ret, (.exit 8)], []⟩
def lt15 : List (Nat × LoopSig) := [(7, L15_0), (20, L15_1), (26, L15_2), (30, L15_3), (35, L15_4)]
theorem k15 : (Code.loops c15).length = 5 := by kernel_rfl
noncomputable def lb15_0 : Code := (Code.loops c15).getD 0 .skip
noncomputable def lb15_1 : Code := (Code.loops c15).getD 1 .skip
noncomputable def lb15_2 : Code := (Code.loops c15).getD 2 .skip
noncomputable def lb15_3 : Code := (Code.loops c15).getD 3 .skip
noncomputable def lb15_4 : Code := (Code.loops c15).getD 4 .skip
def rt15_0 : VT :=
 (.ite (.bin .lt V2 (.un .len V7))
 (.ite (.bin .le N0 V2)
 (.need Tt (.c (.bin .lt V2 (.un .len V14)))
 (.need Tt (.pre 34 (.cons V3 (.cons V4 (.cons V5 (.cons V6 (.cons V7 (.cons V0 (.cons V2 (.cons V1 .nil)))))))))
 (.lt (.app 34 (.cons V3 (.cons V4 (.cons V5 (.cons V6 (.cons V7 (.cons V0 (.cons V2 (.cons V1 .nil)))))))) 0) 1
 (.need Tt (.pre 33 (.cons V15 (.cons V9 .nil)))
 (.lt (.app 33 (.cons V15 (.cons V9 .nil)) 0) 2
 (.need Tt (.pre 38 (.cons V3 (.cons V4 (.cons V5 (.cons V6 (.cons V7 (.cons V2 .nil)))))))
 (.lt (.app 38 (.cons V3 (.cons V4 (.cons V5 (.cons V6 (.cons V7 (.cons V2 .nil)))))) 0) 1
 (.ite (.bin .lt N0 (.un .len V18))
 (.need Tt (.pre 39 (.cons V3 (.cons V4 (.cons V5 (.cons V6 (.cons V7 (.cons V0 (.cons V2 .nil))))))))
 (.lt (.app 39 (.cons V3 (.cons V4 (.cons V5 (.cons V6 (.cons V7 (.cons V0 (.cons V2 .nil))))))) 0) 4
 (.need Tt (.pre 11500 (.cons V0 (.cons (.bin (.add .i64) (.sel 0 V14 V2) V11) (.cons (.bin (.add .i64) (.sel 1 V14 V2) V11) (.cons V16 (.cons V18 (.cons N0 (.cons V13 (.cons V19 (.cons V20 (.cons V21 (.cons V22 .nil))))))))))))
 (.lt (.app 11500 (.cons V0 (.cons (.bin (.add .i64) (.sel 0 V14 V2) V11) (.cons (.bin (.add .i64) (.sel 1 V14 V2) V11) (.cons V16 (.cons V18 (.cons N0 (.cons V13 (.cons V19 (.cons V20 (.cons V21 (.cons V22 .nil))))))))))) 0) 3
 (.need Tt (.pre 41 (.cons V3 (.cons V4 (.cons V5 (.cons V6 (.cons V7 (.cons V2 .nil)))))))
 (.lt (.app 41 (.cons V3 (.cons V4 (.cons V5 (.cons V6 (.cons V7 (.cons V2 .nil)))))) 0) 1
 (.need Tt (.pre 11501 (.cons (.bin (.add .i64) (.sel 0 V14 V2) V11) (.cons (.bin (.add .i64) (.sel 1 V14 V2) V11) (.cons V16 (.cons (.n 1) (.cons V26 (.cons N0 (.cons V14 .nil))))))))
 (.lt (.app 11501 (.cons (.bin (.add .i64) (.sel 0 V14 V2) V11) (.cons (.bin (.add .i64) (.sel 1 V14 V2) V11) (.cons V16 (.cons (.n 1) (.cons V26 (.cons N0 (.cons V14 .nil))))))) 0) 3
 (.ret (.cons (.n (-1)) (.cons (.bin (.add .i64) V2 (.n 1)) (.cons V25 (.cons V29 .nil)))))))))))))
 (.need Tt (.pre 41 (.cons V3 (.cons V4 (.cons V5 (.cons V6 (.cons V7 (.cons V2 .nil)))))))
 (.lt (.app 41 (.cons V3 (.cons V4 (.cons V5 (.cons V6 (.cons V7 (.cons V2 .nil)))))) 0) 1
 (.need Tt (.pre 11501 (.cons (.bin (.add .i64) (.sel 0 V14 V2) V11) (.cons (.bin (.add .i64) (.sel 1 V14 V2) V11) (.cons V16 (.cons N0 (.cons V19 (.cons N0 (.cons V14 .nil))))))))
 (.lt (.app 11501 (.cons (.bin (.add .i64) (.sel 0 V14 V2) V11) (.cons (.bin (.add .i64) (.sel 1 V14 V2) V11) (.cons V16 (.cons N0 (.cons V19 (.cons N0 (.cons V14 .nil))))))) 0) 3
 (.ret (.cons (.n (-1)) (.cons (.bin (.add .i64) V2 (.n 1)) (.cons V13 (.cons V22 .nil)))))))))))))))))
 (.need Tt (.pre 34 (.cons V3 (.cons V4 (.cons V5 (.cons V6 (.cons V7 (.cons V0 (.cons V2 (.cons V1 .nil)))))))))
 (.lt (.app 34 (.cons V3 (.cons V4 (.cons V5 (.cons V6 (.cons V7 (.cons V0 (.cons V2 (.cons V1 .nil)))))))) 0) 1
 (.need Tt (.pre 33 (.cons V15 (.cons V9 .nil)))
 (.lt (.app 33 (.cons V15 (.cons V9 .nil)) 0) 2
 (.need Tt (.pre 38 (.cons V3 (.cons V4 (.cons V5 (.cons V6 (.cons V7 (.cons V2 .nil)))))))
 (.lt (.app 38 (.cons V3 (.cons V4 (.cons V5 (.cons V6 (.cons V7 (.cons V2 .nil)))))) 0) 1
 (.ite (.bin .lt N0 (.un .len V18))
 (.need Tt (.pre 39 (.cons V3 (.cons V4 (.cons V5 (.cons V6 (.cons V7 (.cons V0 (.cons V2 .nil))))))))
 (.lt (.app 39 (.cons V3 (.cons V4 (.cons V5 (.cons V6 (.cons V7 (.cons V0 (.cons V2 .nil))))))) 0) 4
 (.need Tt (.pre 11500 (.cons V0 (.cons N0 (.cons N0 (.cons V16 (.cons V18 (.cons N0 (.cons V13 (.cons V19 (.cons V20 (.cons V21 (.cons V22 .nil))))))))))))
 (.lt (.app 11500 (.cons V0 (.cons N0 (.cons N0 (.cons V16 (.cons V18 (.cons N0 (.cons V13 (.cons V19 (.cons V20 (.cons V21 (.cons V22 .nil))))))))))) 0) 3
 (.need Tt (.pre 41 (.cons V3 (.cons V4 (.cons V5 (.cons V6 (.cons V7 (.cons V2 .nil)))))))
 (.lt (.app 41 (.cons V3 (.cons V4 (.cons V5 (.cons V6 (.cons V7 (.cons V2 .nil)))))) 0) 1
 (.need Tt (.pre 11501 (.cons N0 (.cons N0 (.cons V16 (.cons (.n 1) (.cons V26 (.cons N0 (.cons V14 .nil))))))))
 (.lt (.app 11501 (.cons N0 (.cons N0 (.cons V16 (.cons (.n 1) (.cons V26 (.cons N0 (.cons V14 .nil))))))) 0) 3
 (.ret (.cons (.n (-1)) (.cons (.bin (.add .i64) V2 (.n 1)) (.cons V25 (.cons V29 .nil)))))))))))))
 (.need Tt (.pre 41 (.cons V3 (.cons V4 (.cons V5 (.cons V6 (.cons V7 (.cons V2 .nil)))))))
 (.lt (.app 41 (.cons V3 (.cons V4 (.cons V5 (.cons V6 (.cons V7 (.cons V2 .nil)))))) 0) 1
 (.need Tt (.pre 11501 (.cons N0 (.cons N0 (.cons V16 (.cons N0 (.cons V19 (.cons N0 (.cons V14 .nil))))))))
 (.lt (.app 11501 (.cons N0 (.cons N0 (.cons V16 (.cons N0 (.cons V19 (.cons N0 (.cons V14 .nil))))))) 0) 3
 (.ret (.cons (.n (-1)) (.cons (.bin (.add .i64) V2 (.n 1)) (.cons V13 (.cons V22 .nil)))))))))))))))))
 (.ret (.cons N0 (.cons V2 (.cons V13 (.cons V14 .nil))))))
theorem le15_0 : (loopVT Try.prog (sgOf sg15) (ltOf lt15) L15_0 lb15_0).slim L15_0.nv [] = rt15_0 := by kernel_rfl
theorem lf15_0 : (firstRegion lb15_0).bind (ltOf lt15) = some L15_0 := by kernel_rfl
theorem lk15_0 : (Code.loops lb15_0).length = 2 := by kernel_rfl
theorem li15_0_0 : (Code.loops lb15_0).getD 0 .skip = lb15_1 := by kernel_rfl
theorem li15_0_1 : (Code.loops lb15_0).getD 1 .skip = lb15_2 := by kernel_rfl
def rt15_1 : VT :=
 (.ite (.bin .lt V5 (.un .len V4))
 (.need Tt (.c (.bin .le N0 V5))
 (.need Tt (.c (.bin .le N0 (.sel 0 V4 V5)))
 (.need Tt (.c (.bin .lt (.sel 0 V4 V5) (.un .len V0)))
 (.need Tt (.c (.bin .lt N0 (.un .len V3)))
 (.need Tt (.pre 40 (.cons (.sel 0 V0 (.sel 0 V4 V5)) (.cons (.sel 1 V0 (.sel 0 V4 V5)) (.cons (.sel 2 V0 (.sel 0 V4 V5)) (.cons (.sel 3 V0 (.sel 0 V4 V5)) (.cons (.bin (.sub .i64) (.bin (.add .i64) V1 (.sel 0 V3 N0)) V7) (.cons (.bin (.sub .i64) (.bin (.add .i64) V2 (.sel 1 V3 N0)) V8) .nil)))))))
 (.lt (.app 40 (.cons (.sel 0 V0 (.sel 0 V4 V5)) (.cons (.sel 1 V0 (.sel 0 V4 V5)) (.cons (.sel 2 V0 (.sel 0 V4 V5)) (.cons (.sel 3 V0 (.sel 0 V4 V5)) (.cons (.bin (.sub .i64) (.bin (.add .i64) V1 (.sel 0 V3 N0)) V7) (.cons (.bin (.sub .i64) (.bin (.add .i64) V2 (.sel 1 V3 N0)) V8) .nil)))))) 0) 4
 (.need Tt (.c (.bin .lt (.sel 0 V4 V5) (.un .len V6)))
 (.ret (.cons (.n (-1)) (.cons (.bin (.add .i64) V5 (.n 1)) (.cons (.upd 0 V6 (.sel 0 V4 V5) (.cons V11 (.cons V12 (.cons V13 (.cons V14 .nil))))) .nil)))))))))))
 (.ret (.cons N0 (.cons V5 (.cons V6 .nil)))))
theorem le15_1 : (loopVT Try.prog (sgOf sg15) (ltOf lt15) L15_1 lb15_1).slim L15_1.nv [] = rt15_1 := by kernel_rfl
theorem lf15_1 : (firstRegion lb15_1).bind (ltOf lt15) = some L15_1 := by kernel_rfl
theorem lk15_1 : (Code.loops lb15_1).length = 0 := by kernel_rfl
def rt15_2 : VT :=
 (.ite (.bin .lt V5 (.un .len V4))
 (.need Tt (.c (.bin .le N0 V5))
 (.need Tt (.c (.bin .le N0 (.bin (.add .i64) V3 V5)))
 (.need Tt (.c (.bin .lt (.bin (.add .i64) V3 V5) (.un .len V2)))
 (.need Tt (.pre 40 (.cons (.sel 0 V2 (.bin (.add .i64) V3 V5)) (.cons (.sel 1 V2 (.bin (.add .i64) V3 V5)) (.cons (.sel 2 V2 (.bin (.add .i64) V3 V5)) (.cons (.sel 3 V2 (.bin (.add .i64) V3 V5)) (.cons V0 (.cons V1 .nil)))))))
 (.lt (.app 40 (.cons (.sel 0 V2 (.bin (.add .i64) V3 V5)) (.cons (.sel 1 V2 (.bin (.add .i64) V3 V5)) (.cons (.sel 2 V2 (.bin (.add .i64) V3 V5)) (.cons (.sel 3 V2 (.bin (.add .i64) V3 V5)) (.cons V0 (.cons V1 .nil)))))) 0) 4
 (.need Tt (.c (.bin .le N0 (.sel 0 V4 V5)))
 (.need Tt (.c (.bin .lt (.sel 0 V4 V5) (.un .len V6)))
 (.ret (.cons (.n (-1)) (.cons (.bin (.add .i64) V5 (.n 1)) (.cons (.upd 0 V6 (.sel 0 V4 V5) (.cons V7 (.cons V8 (.cons V9 (.cons V10 .nil))))) .nil)))))))))))
 (.ret (.cons N0 (.cons V5 (.cons V6 .nil)))))
theorem le15_2 : (loopVT Try.prog (sgOf sg15) (ltOf lt15) L15_2 lb15_2).slim L15_2.nv [] = rt15_2 := by kernel_rfl
theorem lf15_2 : (firstRegion lb15_2).bind (ltOf lt15) = some L15_2 := by kernel_rfl
theorem lk15_2 : (Code.loops lb15_2).length = 0 := by kernel_rfl
def rt15_3 : VT :=
 (.ite (.bin .lt V3 (.un .len V4))
 (.need Tt (.c (.bin .le N0 V3))
 (.need Tt (.pre 36 (.cons (.sel 0 V4 V3) (.cons (.sel 1 V4 V3) (.cons (.sel 2 V4 V3) (.cons (.sel 3 V4 V3) .nil)))))
 (.lt (.app 36 (.cons (.sel 0 V4 V3) (.cons (.sel 1 V4 V3) (.cons (.sel 2 V4 V3) (.cons (.sel 3 V4 V3) .nil)))) 0) 1
 (.ite (.un .not V5)
 (.ret (.cons N0 (.cons .lnil (.cons .lnil (.cons (.n 2) (.cons V3 .nil))))))
 (.ret (.cons (.n (-1)) (.cons V0 (.cons V1 (.cons V2 (.cons (.bin (.add .i64) V3 (.n 1)) .nil))))))))))
 (.ret (.cons (.n 1) (.cons V0 (.cons V1 (.cons V2 (.cons V3 .nil)))))))
theorem le15_3 : (loopVT Try.prog (sgOf sg15) (ltOf lt15) L15_3 lb15_3).slim L15_3.nv [] = rt15_3 := by kernel_rfl
theorem lf15_3 : (firstRegion lb15_3).bind (ltOf lt15) = some L15_3 := by kernel_rfl
theorem lk15_3 : (Code.loops lb15_3).length = 0 := by kernel_rfl
def rt15_4 : VT :=
 (.ite (.bin .lt V3 (.un .len V4))
 (.need Tt (.c (.bin .le N0 V3))
 (.need Tt (.pre 36 (.cons (.sel 0 V4 V3) (.cons (.sel 1 V4 V3) (.cons (.sel 2 V4 V3) (.cons (.sel 3 V4 V3) .nil)))))
 (.lt (.app 36 (.cons (.sel 0 V4 V3) (.cons (.sel 1 V4 V3) (.cons (.sel 2 V4 V3) (.cons (.sel 3 V4 V3) .nil)))) 0) 1
 (.ite (.un .not V5)
 (.ret (.cons N0 (.cons .lnil (.cons .lnil (.cons (.n 2) (.cons V3 .nil))))))
 (.ret (.cons (.n (-1)) (.cons V0 (.cons V1 (.cons V2 (.cons (.bin (.add .i64) V3 (.n 1)) .nil))))))))))
 (.ret (.cons (.n 1) (.cons V0 (.cons V1 (.cons V2 (.cons V3 .nil)))))))
theorem le15_4 : (loopVT Try.prog (sgOf sg15) (ltOf lt15) L15_4 lb15_4).slim L15_4.nv [] = rt15_4 := by kernel_rfl
theorem lf15_4 : (firstRegion lb15_4).bind (ltOf lt15) = some L15_4 := by kernel_rfl
theorem lk15_4 : (Code.loops lb15_4).length = 0 := by kernel_rfl
def vt15 : VT :=
 (.need Tt (.pre 13 (.cons V0 (.cons V1 (.cons V2 (.cons V3 (.cons V4 (.cons V5 (.cons V6 (.cons V7 (.cons V8 (.cons V9 (.cons V10 .nil))))))))))))
 (.lt (.app 13 (.cons V0 (.cons V1 (.cons V2 (.cons V3 (.cons V4 (.cons V5 (.cons V6 (.cons V7 (.cons V8 (.cons V9 (.cons V10 .nil))))))))))) 0) 2
 (.ite (.un .not (.bin .eq V12 N0))
 (.ret (.cons .lnil (.cons .lnil (.cons V12 .nil))))
 (.need Tt (.c (.bin .le (.un .len V2) (.n 4398046511104)))
 (.need Tt (.c (.bin .le (.un .len V4) (.n 4398046511104)))
 (.need Tt (.pre 11502 (.cons V10 (.cons V11 (.cons (.n (-1)) (.cons V0 (.cons V1 (.cons V2 (.cons V3 (.cons V4 (.cons V5 (.cons V6 (.cons V7 (.cons V8 (.cons V9 (.cons (.rep (.un .len V2) (.cons N0 (.cons N0 (.cons N0 (.cons N0 .nil))))) (.cons (.rep (.un .len V4) (.cons N0 (.cons N0 (.cons N0 (.cons N0 .nil))))) .nil))))))))))))))))
 (.lt (.app 11502 (.cons V10 (.cons V11 (.cons (.n (-1)) (.cons V0 (.cons V1 (.cons V2 (.cons V3 (.cons V4 (.cons V5 (.cons V6 (.cons V7 (.cons V8 (.cons V9 (.cons (.rep (.un .len V2) (.cons N0 (.cons N0 (.cons N0 (.cons N0 .nil))))) (.cons (.rep (.un .len V4) (.cons N0 (.cons N0 (.cons N0 (.cons N0 .nil))))) .nil))))))))))))))) 0) 4
 (.need Tt (.pre 11503 (.cons .lnil (.cons .lnil (.cons N0 (.cons N0 (.cons V15 .nil))))))
 (.lt (.app 11503 (.cons .lnil (.cons .lnil (.cons N0 (.cons N0 (.cons V15 .nil))))) 0) 5
 (.ite (.bin .eq V17 N0)
 (.ret (.cons V18 (.cons V19 (.cons V20 .nil))))
 (.need Tt (.pre 11504 (.cons V18 (.cons V19 (.cons V20 (.cons N0 (.cons V16 .nil))))))
 (.lt (.app 11504 (.cons V18 (.cons V19 (.cons V20 (.cons N0 (.cons V16 .nil))))) 0) 5
 (.ite (.bin .eq V22 N0)
 (.ret (.cons V23 (.cons V24 (.cons V25 .nil))))
 (.ret (.cons V15 (.cons V16 (.cons N0 .nil)))))))))))))))))
theorem e15 : (fnVT Try.prog (sgOf sg15) (ltOf lt15) S15 Try.f15 c15).slim (S15.ps.map fun p => p.2.length).sum [] = vt15 := by kernel_rfl
def S5 : Sig := ⟨[(true, [.str, .bool, Ty0, Ty2, Ty5]), (true, [i6, i6, i6, i6, i6]), (false, [Ty3])], [(false, [.bool])], [], none⟩
noncomputable def c5 : Code := Try.f5.body.getD .skip
theorem b5 : Try.f5.body = some c5 := body_some (by kernel_rfl)
theorem n5 : (Try.f5.name == "runtime.NumGoroutine") = false := by kernel_rfl
def sg5 : List (FuncId × Sig) := [(8, S8), (9, S9), (10, S10), (15, S15), (14, S14)]
def lt5 : List (Nat × LoopSig) := []
theorem k5 : (Code.loops c5).length = 0 := by kernel_rfl
def vt5 : VT :=
 (.need Tt (.pre 8 (.cons V0 (.cons V1 (.cons V2 (.cons V3 (.cons V4 (.cons (.n 8) (.cons (.n 6) .nil))))))))
 (.lt (.app 8 (.cons V0 (.cons V1 (.cons V2 (.cons V3 (.cons V4 (.cons (.n 8) (.cons (.n 6) .nil))))))) 0) 1
 (.ite (.ite (.un .not V11) Tt (.bin .lt (.n 10) (.un .len V10)))
 (.need Tt (.pre 9 .nil)
 (.lt (.app 9 .nil 0) 1
 (.ret (.cons V12 .nil))))
 (.need Tt (.pre 10 (.cons V0 (.cons V1 (.cons V2 (.cons V3 (.cons V4 (.cons V5 (.cons V6 (.cons V7 (.cons V8 (.cons V9 (.cons V10 .nil))))))))))))
 (.lt (.app 10 (.cons V0 (.cons V1 (.cons V2 (.cons V3 (.cons V4 (.cons V5 (.cons V6 (.cons V7 (.cons V8 (.cons V9 (.cons V10 .nil))))))))))) 0) 3
 (.need Tt (.pre 15 (.cons V0 (.cons V1 (.cons V2 (.cons V3 (.cons V4 (.cons V5 (.cons V6 (.cons V7 (.cons V8 (.cons V9 (.cons V10 .nil))))))))))))
 (.lt (.app 15 (.cons V0 (.cons V1 (.cons V2 (.cons V3 (.cons V4 (.cons V5 (.cons V6 (.cons V7 (.cons V8 (.cons V9 (.cons V10 .nil))))))))))) 0) 3
 (.need Tt (.pre 14 (.cons V12 (.cons V15 .nil)))
 (.lt (.app 14 (.cons V12 (.cons V15 .nil)) 0) 1
 (.need V18 (.pre 14 (.cons V13 (.cons V16 .nil)))
 (.lt (.app 14 (.cons V13 (.cons V16 .nil)) 0) 1
 (.need (.ite (.ite V18 V19 (.t false)) (.bin .eq V14 V17) (.t false)) (.pre 9 .nil)
 (.lt (.app 9 .nil 0) 1
 (.ret (.cons (.ite (.ite (.ite V18 V19 (.t false)) (.bin .eq V14 V17) (.t false)) V20 (.t false)) .nil)))))))))))))))
theorem e5 : (fnVT Try.prog (sgOf sg5) (ltOf lt5) S5 Try.f5 c5).slim (S5.ps.map fun p => p.2.length).sum [] = vt5 := by kernel_rfl
def vt73 : VT :=
 (.need Tt (.pre 36 (.cons V0 (.cons V1 (.cons V2 (.cons V3 .nil)))))
 (.lt (.app 36 (.cons V0 (.cons V1 (.cons V2 (.cons V3 .nil)))) 0) 1
 (.ite (.ite (.ite (.un .not V5) Tt (.bin .lt V4 (.n (-536870912)))) Tt (.bin .lt (.n 536870912) V4))
 (.ret (.cons N0 (.cons N0 (.cons N0 (.cons N0 .nil)))))
 (.need Tt (.pre 36 (.cons (.bin (.sub .i64) V0 V4) (.cons (.bin (.sub .i64) V1 V4) (.cons (.bin (.add .i64) V2 V4) (.cons (.bin (.add .i64) V3 V4) .nil)))))
 (.lt (.app 36 (.cons (.bin (.sub .i64) V0 V4) (.cons (.bin (.sub .i64) V1 V4) (.cons (.bin (.add .i64) V2 V4) (.cons (.bin (.add .i64) V3 V4) .nil)))) 0) 1
 (.ite (.un .not V6)
 (.ret (.cons N0 (.cons N0 (.cons N0 (.cons N0 .nil)))))
 (.ret (.cons (.bin (.sub .i64) V0 V4) (.cons (.bin (.sub .i64) V1 V4) (.cons (.bin (.add .i64) V2 V4) (.cons (.bin (.add .i64) V3 V4) .nil)))))))))))
def T73 : FuncId → List D → List D := tabOf [(36, fn36)]
def fn73 (ρ : List D) : List D := vt73.val T73 ρ
def vt97 : VT :=
 (.need Tt (.pre 36 (.cons V0 (.cons V1 (.cons V2 (.cons V3 .nil)))))
 (.lt (.app 36 (.cons V0 (.cons V1 (.cons V2 (.cons V3 .nil)))) 0) 1
 (.need V6 (.pre 67 (.cons V4 (.cons V5 .nil)))
 (.lt (.app 67 (.cons V4 (.cons V5 .nil)) 0) 1
 (.ret (.cons (.ite (.ite (.ite (.ite (.ite V6 V7 (.t false)) (.bin .le V0 V4) (.t false)) (.bin .le V4 V2) (.t false)) (.bin .le V1 V5) (.t false)) (.bin .le V5 V3) (.t false)) .nil))))))
def T97 : FuncId → List D → List D := tabOf [(36, fn36), (67, fn67)]
def fn97 (ρ : List D) : List D := vt97.val T97 ρ
def vt72 : VT :=
 (.need Tt (.pre 36 (.cons V0 (.cons V1 (.cons V2 (.cons V3 .nil)))))
 (.lt (.app 36 (.cons V0 (.cons V1 (.cons V2 (.cons V3 .nil)))) 0) 1
 (.need V8 (.pre 97 (.cons V4 (.cons V5 (.cons V6 (.cons V7 (.cons V0 (.cons V1 .nil)))))))
 (.lt (.app 97 (.cons V4 (.cons V5 (.cons V6 (.cons V7 (.cons V0 (.cons V1 .nil)))))) 0) 1
 (.need (.ite V8 V9 (.t false)) (.pre 97 (.cons V4 (.cons V5 (.cons V6 (.cons V7 (.cons V2 (.cons V3 .nil)))))))
 (.lt (.app 97 (.cons V4 (.cons V5 (.cons V6 (.cons V7 (.cons V2 (.cons V3 .nil)))))) 0) 1
 (.ret (.cons (.ite (.ite V8 V9 (.t false)) V10 (.t false)) .nil))))))))
def T72 : FuncId → List D → List D := tabOf [(36, fn36), (97, fn97)]
def fn72 (ρ : List D) : List D := vt72.val T72 ρ
noncomputable def c6 : Code := Try.f6.body.getD .skip
theorem k6 : (Code.loops c6).length = 0 := by kernel_rfl
end Go.Proofs.Ytindllmeeckfcaa.rv
