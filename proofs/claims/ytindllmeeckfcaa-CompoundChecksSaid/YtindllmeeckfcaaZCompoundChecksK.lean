/-
  The functions of the program as they are run: printed by program.
-/
import Derived.Test.YtindllmeeckfcaaZCompoundChecksJ
namespace Go.Proofs.Ytindllmeeckfcaa.rv
open Go.RV
set_option maxRecDepth 100000
def S27 : Sig := ⟨[(true, [i6, i6, i6, i6])], [(false, [.bool])], [], none⟩
noncomputable def c27 : Code := Try.f27.body.getD .skip
theorem b27 : Try.f27.body = some c27 := body_some (by kernel_rfl)
theorem n27 : (Try.f27.name == "runtime.NumGoroutine") = false := by kernel_rfl
def sg27 : List (FuncId × Sig) := [(17, S17)]
def lt27 : List (Nat × LoopSig) := []
theorem k27 : (Code.loops c27).length = 0 := by kernel_rfl
def vt27 : VT :=
  (.need (.t true) (.pre 17 (.cons (.var 0) (.cons (.var 1) (.cons (.var 2) (.cons (.var 3) .nil)))))
  (.lt (.app 17 (.cons (.var 0) (.cons (.var 1) (.cons (.var 2) (.cons (.var 3) .nil)))) 0) 1
  (.ret (.cons (.un .not (.var 4)) .nil))))
theorem e27 : (fnVT Try.prog (sgOf sg27) (ltOf lt27) S27 Try.f27 c27).slim (S27.ps.map fun p => p.2.length).sum [] = vt27 := by kernel_rfl
def T27 : FuncId → List D → List D := tabOf [(17, fn17)]
def fn27 (ρ : List D) : List D := vt27.val T27 ρ
theorem m27 : Meets Try.prog 27 S27 (fun _ => True) fn27 := meets_easy (sgl := sg27) (Φ := T27) mixed (List.forall_mem_cons.2 ⟨m17, (fun _ h => nomatch h)⟩) Try.func27 b27 n27 k27 e27 (by kernel_rfl)
def S11 : Sig := ⟨[(true, [.str, .bool, (.sl 38 [.str, .str, i6, i6, i6, (.sl 53 [.str, i6])]), (.sl 55 [i6, i6, i6, i6, .str, i6, i6]), (.sl 50 [.str, i6])]), (true, [i6, i6, i6, i6, i6]), (false, [(.sl 40 [i6, i6, i6, i6])]), (false, [(.sl 40 [i6, i6, i6, i6])])], [(false, [i6])], [], none⟩
noncomputable def c11 : Code := Try.f11.body.getD .skip
theorem b11 : Try.f11.body = some c11 := body_some (by kernel_rfl)
theorem n11 : (Try.f11.name == "runtime.NumGoroutine") = false := by kernel_rfl
def sg11 : List (FuncId × Sig) := [(26, S26), (28, S28), (25, S25), (29, S29), (30, S30), (31, S31)]
def L11_0 : LoopSig := ⟨11100, [],
   ⟨[.any, .any, .any, .any, (.c (.ptr 0 0)), .any, .any, .any, (.c (.x i6 (.var 0))), .any, .any, .any, .any, .any, .any, .any, .any, .any, .any, .any, .any, .any, .any, .any, .any, .any, .any, .any, .any, .any, .any, .any, .any, .any, .any, .any, .any, .any, .any, .any, .any, (.c (.x (.sl 40 [i6, i6, i6, i6]) (.var 1))), (.c (.x i6 (.var 2))), (.c (.x i6 (.var 3))), .any, .any, .any, .any, .any, .any, .any, .any, .any, .any, .any, .any, .any, .any, .any, .any, .any, .any, .any, .any, .any, .any, .any, .any, .any, .any, .any, .any, .any, .any, .any, .any, .any, .any, .any],
    [some ⟨(.t true), (.box 26 [(.x .str (.var 4)), (.x .bool (.var 5)), (.x (.sl 38 [.str, .str, i6, i6, i6, (.sl 53 [.str, i6])]) (.var 6)), (.x (.sl 55 [i6, i6, i6, i6, .str, i6, i6]) (.var 7)), (.x (.sl 50 [.str, i6]) (.var 8))] false)⟩]⟩,
   9, [0, 3], [44, 45, 46, 47, 12, 11, 48, 49, 50, 51, 52, 53, 54, 55, 56, 57, 58, 59, 60, 61, 62, 63, 8, 64, 43], [.ret, (.exit 1)], []⟩
def lt11 : List (Nat × LoopSig) := [(13, L11_0)]
theorem k11 : (Code.loops c11).length = 1 := by kernel_rfl
noncomputable def lb11_0 : Code := (Code.loops c11).getD 0 .skip
def rt11_0 : VT :=
  (.ite (.bin .lt (.var 3) (.var 2))
   (.need (.t true) (.c (.bin .le (.n 0) (.var 3)))
   (.need (.t true) (.c (.bin .lt (.var 3) (.un .len (.var 1))))
   (.need (.t true) (.pre 29 (.cons (.sel 0 (.var 1) (.var 3)) (.cons (.sel 1 (.var 1) (.var 3)) (.cons (.sel 2 (.var 1) (.var 3)) (.cons (.sel 3 (.var 1) (.var 3)) .nil)))))
   (.lt (.app 29 (.cons (.sel 0 (.var 1) (.var 3)) (.cons (.sel 1 (.var 1) (.var 3)) (.cons (.sel 2 (.var 1) (.var 3)) (.cons (.sel 3 (.var 1) (.var 3)) .nil)))) 0) 2
   (.need (.t true) (.c (.bin .lt (.var 3) (.un .len (.var 6))))
   (.ite (.un .not (.ite (.bin .eq (.var 9) (.sel 2 (.var 6) (.var 3))) (.bin .eq (.var 10) (.sel 3 (.var 6) (.var 3))) (.t false)))
    (.ret (.cons (.n 0) (.cons (.n 13) (.cons (.var 3) .nil))))
    (.ret (.cons (.n (-1)) (.cons (.var 0) (.cons (.bin (.add .i64) (.var 3) (.n 1)) .nil))))))))))
   (.ret (.cons (.n 1) (.cons (.var 0) (.cons (.var 3) .nil)))))
theorem le11_0 : (loopVT Try.prog (sgOf sg11) (ltOf lt11) L11_0 lb11_0).slim L11_0.nv [] = rt11_0 := by kernel_rfl
theorem lf11_0 : (firstRegion lb11_0).bind (ltOf lt11) = some L11_0 := by kernel_rfl
theorem lk11_0 : (Code.loops lb11_0).length = 0 := by kernel_rfl
def vt11 : VT :=
  (.need (.t true) (.pre 26 (.cons (.var 0) (.cons (.var 1) (.cons (.var 2) (.cons (.var 3) (.cons (.var 4) .nil))))))
  (.lt (.app 26 (.cons (.var 0) (.cons (.var 1) (.cons (.var 2) (.cons (.var 3) (.cons (.var 4) .nil))))) 0) 1
  (.ite (.un .not (.bin .eq (.var 12) (.n 0)))
   (.ret (.cons (.var 12) .nil))
   (.need (.t true) (.pre 28 (.cons (.var 5) (.cons (.var 6) (.cons (.var 7) (.cons (.var 8) (.cons (.var 9) .nil))))))
   (.lt (.app 28 (.cons (.var 5) (.cons (.var 6) (.cons (.var 7) (.cons (.var 8) (.cons (.var 9) .nil))))) 0) 1
   (.ite (.un .not (.var 13))
    (.ret (.cons (.n 7) .nil))
    (.ite (.un .not (.bin .eq (.un .len (.var 10)) (.un .len (.var 2))))
     (.ret (.cons (.n 1) .nil))
     (.ite (.un .not (.bin .eq (.un .len (.var 11)) (.un .len (.var 4))))
      (.ret (.cons (.n 1) .nil))
      (.need (.t true) (.pre 25 (.cons (.var 10) (.cons (.clo 27 [] .nil) .nil)))
      (.lt (.app 25 (.cons (.var 10) (.cons (.clo 27 [] .nil) .nil)) 0) 1
      (.ite (.var 14)
       (.ret (.cons (.n 1) .nil))
       (.need (.t true) (.pre 25 (.cons (.var 11) (.cons (.clo 27 [] .nil) .nil)))
       (.lt (.app 25 (.cons (.var 11) (.cons (.clo 27 [] .nil) .nil)) 0) 1
       (.ite (.var 15)
        (.ret (.cons (.n 1) .nil))
        (.need (.t true) (.pre 11100 (.cons (.n 0) (.cons (.var 10) (.cons (.un .len (.var 10)) (.cons (.n 0) (.cons (.var 0) (.cons (.var 1) (.cons (.var 2) (.cons (.var 3) (.cons (.var 4) .nil))))))))))
        (.lt (.app 11100 (.cons (.n 0) (.cons (.var 10) (.cons (.un .len (.var 10)) (.cons (.n 0) (.cons (.var 0) (.cons (.var 1) (.cons (.var 2) (.cons (.var 3) (.cons (.var 4) .nil))))))))) 0) 3
        (.ite (.bin .eq (.var 16) (.n 0))
         (.ret (.cons (.var 17) .nil))
         (.need (.t true) (.pre 30 (.cons (.var 0) (.cons (.var 1) (.cons (.var 2) (.cons (.var 3) (.cons (.var 4) (.cons (.var 8) (.cons (.var 10) (.cons (.var 11) .nil)))))))))
         (.lt (.app 30 (.cons (.var 0) (.cons (.var 1) (.cons (.var 2) (.cons (.var 3) (.cons (.var 4) (.cons (.var 8) (.cons (.var 10) (.cons (.var 11) .nil)))))))) 0) 1
         (.ite (.un .not (.var 19))
          (.ret (.cons (.n 3) .nil))
          (.need (.t true) (.pre 31 (.cons (.var 0) (.cons (.var 1) (.cons (.var 2) (.cons (.var 3) (.cons (.var 4) (.cons (.var 10) (.cons (.var 11) .nil))))))))
          (.lt (.app 31 (.cons (.var 0) (.cons (.var 1) (.cons (.var 2) (.cons (.var 3) (.cons (.var 4) (.cons (.var 10) (.cons (.var 11) .nil))))))) 0) 1
          (.ite (.un .not (.var 20))
           (.ret (.cons (.n 14) .nil))
           (.ret (.cons (.n 0) .nil)))))))))))))))))))))))))
theorem e11 : (fnVT Try.prog (sgOf sg11) (ltOf lt11) S11 Try.f11 c11).slim (S11.ps.map fun p => p.2.length).sum [] = vt11 := by kernel_rfl
def S9 : Sig := ⟨[], [(false, [.bool])], [], none⟩
noncomputable def c9 : Code := Try.f9.body.getD .skip
theorem b9 : Try.f9.body = some c9 := body_some (by kernel_rfl)
theorem n9 : (Try.f9.name == "runtime.NumGoroutine") = false := by kernel_rfl
def sg9 : List (FuncId × Sig) := [(12, S12), (10, S10), (14, S14), (11, S11)]
def lt9 : List (Nat × LoopSig) := []
theorem k9 : (Code.loops c9).length = 0 := by kernel_rfl
def vt9 : VT :=
  (.need (.t true) (.c (.bin .lt (.n 1) (.un .len (.lcons (.cons (.str ⟨#[97]⟩) (.cons (.str ⟨#[]⟩) (.cons (.n 20000) (.cons (.n 10000) (.cons (.n 0) (.cons .lnil .nil)))))) (.lcons (.cons (.str ⟨#[97]⟩) (.cons (.str ⟨#[]⟩) (.cons (.n 20000) (.cons (.n 10000) (.cons (.n 0) (.cons .lnil .nil)))))) .lnil)))))
  (.need (.t true) (.c (.bin .lt (.n 1) (.un .len (.upd 0 (.lcons (.cons (.str ⟨#[97]⟩) (.cons (.str ⟨#[]⟩) (.cons (.n 20000) (.cons (.n 10000) (.cons (.n 0) (.cons .lnil .nil)))))) (.lcons (.cons (.str ⟨#[97]⟩) (.cons (.str ⟨#[]⟩) (.cons (.n 20000) (.cons (.n 10000) (.cons (.n 0) (.cons .lnil .nil)))))) .lnil)) (.n 1) (.cons (.str ⟨#[98]⟩) .nil)))))
  (.need (.t true) (.pre 12 (.cons (.str ⟨#[103]⟩) (.cons (.t false) (.cons (.upd 4 (.upd 0 (.lcons (.cons (.str ⟨#[97]⟩) (.cons (.str ⟨#[]⟩) (.cons (.n 20000) (.cons (.n 10000) (.cons (.n 0) (.cons .lnil .nil)))))) (.lcons (.cons (.str ⟨#[97]⟩) (.cons (.str ⟨#[]⟩) (.cons (.n 20000) (.cons (.n 10000) (.cons (.n 0) (.cons .lnil .nil)))))) .lnil)) (.n 1) (.cons (.str ⟨#[98]⟩) .nil)) (.n 1) (.cons (.n (-1)) .nil)) (.cons .lnil (.cons (.lcons (.cons (.str ⟨#[99]⟩) (.cons (.n (-1)) .nil)) .lnil) (.cons (.n 0) (.cons (.n 10000) (.cons (.n 20000) (.cons (.n 5000) (.cons (.n 8) (.cons (.lcons (.cons (.n 0) (.cons (.n 0) (.cons (.n 20000) (.cons (.n 10000) .nil)))) (.lcons (.cons (.n 40000) (.cons (.n 0) (.cons (.n 60000) (.cons (.n 10000) .nil)))) .lnil)) .nil))))))))))))
  (.lt (.app 12 (.cons (.str ⟨#[103]⟩) (.cons (.t false) (.cons (.upd 4 (.upd 0 (.lcons (.cons (.str ⟨#[97]⟩) (.cons (.str ⟨#[]⟩) (.cons (.n 20000) (.cons (.n 10000) (.cons (.n 0) (.cons .lnil .nil)))))) (.lcons (.cons (.str ⟨#[97]⟩) (.cons (.str ⟨#[]⟩) (.cons (.n 20000) (.cons (.n 10000) (.cons (.n 0) (.cons .lnil .nil)))))) .lnil)) (.n 1) (.cons (.str ⟨#[98]⟩) .nil)) (.n 1) (.cons (.n (-1)) .nil)) (.cons .lnil (.cons (.lcons (.cons (.str ⟨#[99]⟩) (.cons (.n (-1)) .nil)) .lnil) (.cons (.n 0) (.cons (.n 10000) (.cons (.n 20000) (.cons (.n 5000) (.cons (.n 8) (.cons (.lcons (.cons (.n 0) (.cons (.n 0) (.cons (.n 20000) (.cons (.n 10000) .nil)))) (.lcons (.cons (.n 40000) (.cons (.n 0) (.cons (.n 60000) (.cons (.n 10000) .nil)))) .lnil)) .nil))))))))))) 0) 2
  (.need (.t true) (.pre 10 (.cons (.str ⟨#[103]⟩) (.cons (.t false) (.cons (.upd 4 (.upd 0 (.lcons (.cons (.str ⟨#[97]⟩) (.cons (.str ⟨#[]⟩) (.cons (.n 20000) (.cons (.n 10000) (.cons (.n 0) (.cons .lnil .nil)))))) (.lcons (.cons (.str ⟨#[97]⟩) (.cons (.str ⟨#[]⟩) (.cons (.n 20000) (.cons (.n 10000) (.cons (.n 0) (.cons .lnil .nil)))))) .lnil)) (.n 1) (.cons (.str ⟨#[98]⟩) .nil)) (.n 1) (.cons (.n (-1)) .nil)) (.cons .lnil (.cons (.lcons (.cons (.str ⟨#[99]⟩) (.cons (.n (-1)) .nil)) .lnil) (.cons (.n 0) (.cons (.n 10000) (.cons (.n 20000) (.cons (.n 5000) (.cons (.n 8) (.cons (.lcons (.cons (.n 0) (.cons (.n 0) (.cons (.n 20000) (.cons (.n 10000) .nil)))) (.lcons (.cons (.n 40000) (.cons (.n 0) (.cons (.n 60000) (.cons (.n 10000) .nil)))) .lnil)) .nil))))))))))))
  (.lt (.app 10 (.cons (.str ⟨#[103]⟩) (.cons (.t false) (.cons (.upd 4 (.upd 0 (.lcons (.cons (.str ⟨#[97]⟩) (.cons (.str ⟨#[]⟩) (.cons (.n 20000) (.cons (.n 10000) (.cons (.n 0) (.cons .lnil .nil)))))) (.lcons (.cons (.str ⟨#[97]⟩) (.cons (.str ⟨#[]⟩) (.cons (.n 20000) (.cons (.n 10000) (.cons (.n 0) (.cons .lnil .nil)))))) .lnil)) (.n 1) (.cons (.str ⟨#[98]⟩) .nil)) (.n 1) (.cons (.n (-1)) .nil)) (.cons .lnil (.cons (.lcons (.cons (.str ⟨#[99]⟩) (.cons (.n (-1)) .nil)) .lnil) (.cons (.n 0) (.cons (.n 10000) (.cons (.n 20000) (.cons (.n 5000) (.cons (.n 8) (.cons (.lcons (.cons (.n 0) (.cons (.n 0) (.cons (.n 20000) (.cons (.n 10000) .nil)))) (.lcons (.cons (.n 40000) (.cons (.n 0) (.cons (.n 60000) (.cons (.n 10000) .nil)))) .lnil)) .nil))))))))))) 0) 3
  (.need (.t true) (.pre 14 (.cons (.var 0) (.cons (.lcons (.cons (.n 0) (.cons (.n 0) (.cons (.n 30000) (.cons (.n 20000) .nil)))) .lnil) .nil)))
  (.lt (.app 14 (.cons (.var 0) (.cons (.lcons (.cons (.n 0) (.cons (.n 0) (.cons (.n 30000) (.cons (.n 20000) .nil)))) .lnil) .nil)) 0) 1
  (.need (.ite (.ite (.ite (.ite (.var 5) (.bin .eq (.var 1) (.n 0)) (.t false)) (.bin .eq (.var 4) (.n 0)) (.t false)) (.bin .eq (.un .len (.var 2)) (.n 2)) (.t false)) (.bin .eq (.un .len (.var 3)) (.n 1)) (.t false)) (.pre 11 (.cons (.str ⟨#[103]⟩) (.cons (.t false) (.cons (.upd 4 (.upd 0 (.lcons (.cons (.str ⟨#[97]⟩) (.cons (.str ⟨#[]⟩) (.cons (.n 20000) (.cons (.n 10000) (.cons (.n 0) (.cons .lnil .nil)))))) (.lcons (.cons (.str ⟨#[97]⟩) (.cons (.str ⟨#[]⟩) (.cons (.n 20000) (.cons (.n 10000) (.cons (.n 0) (.cons .lnil .nil)))))) .lnil)) (.n 1) (.cons (.str ⟨#[98]⟩) .nil)) (.n 1) (.cons (.n (-1)) .nil)) (.cons .lnil (.cons (.lcons (.cons (.str ⟨#[99]⟩) (.cons (.n (-1)) .nil)) .lnil) (.cons (.n 0) (.cons (.n 10000) (.cons (.n 20000) (.cons (.n 5000) (.cons (.n 8) (.cons (.var 2) (.cons (.var 3) .nil)))))))))))))
  (.lt (.app 11 (.cons (.str ⟨#[103]⟩) (.cons (.t false) (.cons (.upd 4 (.upd 0 (.lcons (.cons (.str ⟨#[97]⟩) (.cons (.str ⟨#[]⟩) (.cons (.n 20000) (.cons (.n 10000) (.cons (.n 0) (.cons .lnil .nil)))))) (.lcons (.cons (.str ⟨#[97]⟩) (.cons (.str ⟨#[]⟩) (.cons (.n 20000) (.cons (.n 10000) (.cons (.n 0) (.cons .lnil .nil)))))) .lnil)) (.n 1) (.cons (.str ⟨#[98]⟩) .nil)) (.n 1) (.cons (.n (-1)) .nil)) (.cons .lnil (.cons (.lcons (.cons (.str ⟨#[99]⟩) (.cons (.n (-1)) .nil)) .lnil) (.cons (.n 0) (.cons (.n 10000) (.cons (.n 20000) (.cons (.n 5000) (.cons (.n 8) (.cons (.var 2) (.cons (.var 3) .nil)))))))))))) 0) 1
  (.need (.ite (.ite (.ite (.ite (.ite (.var 5) (.bin .eq (.var 1) (.n 0)) (.t false)) (.bin .eq (.var 4) (.n 0)) (.t false)) (.bin .eq (.un .len (.var 2)) (.n 2)) (.t false)) (.bin .eq (.un .len (.var 3)) (.n 1)) (.t false)) (.bin .eq (.var 6) (.n 0)) (.t false)) (.c (.bin .lt (.n 0) (.un .len (.var 2))))
  (.need (.ite (.ite (.ite (.ite (.ite (.var 5) (.bin .eq (.var 1) (.n 0)) (.t false)) (.bin .eq (.var 4) (.n 0)) (.t false)) (.bin .eq (.un .len (.var 2)) (.n 2)) (.t false)) (.bin .eq (.un .len (.var 3)) (.n 1)) (.t false)) (.bin .eq (.var 6) (.n 0)) (.t false)) (.pre 11 (.cons (.str ⟨#[103]⟩) (.cons (.t false) (.cons (.upd 4 (.upd 0 (.lcons (.cons (.str ⟨#[97]⟩) (.cons (.str ⟨#[]⟩) (.cons (.n 20000) (.cons (.n 10000) (.cons (.n 0) (.cons .lnil .nil)))))) (.lcons (.cons (.str ⟨#[97]⟩) (.cons (.str ⟨#[]⟩) (.cons (.n 20000) (.cons (.n 10000) (.cons (.n 0) (.cons .lnil .nil)))))) .lnil)) (.n 1) (.cons (.str ⟨#[98]⟩) .nil)) (.n 1) (.cons (.n (-1)) .nil)) (.cons .lnil (.cons (.lcons (.cons (.str ⟨#[99]⟩) (.cons (.n (-1)) .nil)) .lnil) (.cons (.n 0) (.cons (.n 10000) (.cons (.n 20000) (.cons (.n 5000) (.cons (.n 8) (.cons (.lcons (.cons (.sel 0 (.var 2) (.n 0)) (.cons (.sel 1 (.var 2) (.n 0)) (.cons (.sel 2 (.var 2) (.n 0)) (.cons (.sel 3 (.var 2) (.n 0)) .nil)))) (.lcons (.cons (.sel 0 (.var 2) (.n 0)) (.cons (.sel 1 (.var 2) (.n 0)) (.cons (.sel 2 (.var 2) (.n 0)) (.cons (.sel 3 (.var 2) (.n 0)) .nil)))) .lnil)) (.cons (.var 3) .nil)))))))))))))
  (.lt (.app 11 (.cons (.str ⟨#[103]⟩) (.cons (.t false) (.cons (.upd 4 (.upd 0 (.lcons (.cons (.str ⟨#[97]⟩) (.cons (.str ⟨#[]⟩) (.cons (.n 20000) (.cons (.n 10000) (.cons (.n 0) (.cons .lnil .nil)))))) (.lcons (.cons (.str ⟨#[97]⟩) (.cons (.str ⟨#[]⟩) (.cons (.n 20000) (.cons (.n 10000) (.cons (.n 0) (.cons .lnil .nil)))))) .lnil)) (.n 1) (.cons (.str ⟨#[98]⟩) .nil)) (.n 1) (.cons (.n (-1)) .nil)) (.cons .lnil (.cons (.lcons (.cons (.str ⟨#[99]⟩) (.cons (.n (-1)) .nil)) .lnil) (.cons (.n 0) (.cons (.n 10000) (.cons (.n 20000) (.cons (.n 5000) (.cons (.n 8) (.cons (.lcons (.cons (.sel 0 (.var 2) (.n 0)) (.cons (.sel 1 (.var 2) (.n 0)) (.cons (.sel 2 (.var 2) (.n 0)) (.cons (.sel 3 (.var 2) (.n 0)) .nil)))) (.lcons (.cons (.sel 0 (.var 2) (.n 0)) (.cons (.sel 1 (.var 2) (.n 0)) (.cons (.sel 2 (.var 2) (.n 0)) (.cons (.sel 3 (.var 2) (.n 0)) .nil)))) .lnil)) (.cons (.var 3) .nil)))))))))))) 0) 1
  (.ret (.cons (.ite (.ite (.ite (.ite (.ite (.ite (.var 5) (.bin .eq (.var 1) (.n 0)) (.t false)) (.bin .eq (.var 4) (.n 0)) (.t false)) (.bin .eq (.un .len (.var 2)) (.n 2)) (.t false)) (.bin .eq (.un .len (.var 3)) (.n 1)) (.t false)) (.bin .eq (.var 6) (.n 0)) (.t false)) (.bin .eq (.var 7) (.n 14)) (.t false)) .nil)))))))))))))))
theorem e9 : (fnVT Try.prog (sgOf sg9) (ltOf lt9) S9 Try.f9 c9).slim (S9.ps.map fun p => p.2.length).sum [] = vt9 := by kernel_rfl
def S3 : Sig := ⟨[(true, [.str, .bool, (.sl 38 [.str, .str, i6, i6, i6, (.sl 53 [.str, i6])]), (.sl 55 [i6, i6, i6, i6, .str, i6, i6]), (.sl 50 [.str, i6])]), (true, [i6, i6, i6, i6, i6]), (false, [(.sl 40 [i6, i6, i6, i6])])], [(false, [.bool])], [], none⟩
noncomputable def c3 : Code := Try.f3.body.getD .skip
theorem b3 : Try.f3.body = some c3 := body_some (by kernel_rfl)
theorem n3 : (Try.f3.name == "runtime.NumGoroutine") = false := by kernel_rfl
def sg3 : List (FuncId × Sig) := [(8, S8), (9, S9), (10, S10), (11, S11)]
def L3_0 : LoopSig := ⟨10301, [],
   ⟨[.any, .any, (.c (.x (.sl 40 [i6, i6, i6, i6]) (.var 0))), (.c (.ptr 0 0)), .any, .any, (.c (.x .bool (.var 1))), (.c (.x (.sl 40 [i6, i6, i6, i6]) (.var 2))), .any, .any, (.c (.x i6 (.var 3))), .any, .any, .any, .any, .any, .any, .any, .any, .any, .any, .any, .any, .any, .any, .any, .any, .any, .any, .any, .any, .any, .any, .any, .any, .any, .any, .any, .any, .any, .any, .any, .any, .any, .any, .any, .any, .any, .any, .any, .any, .any, .any, .any, .any, .any, .any, .any, .any, .any, .any, .any, .any, .any, .any, .any, .any, .any, .any, .any, .any, .any, .any, .any, .any, .any, .any, .any, .any, .any, .any, .any, .any, .any, .any, .any, .any, .any, .any, .any, .any, .any, .any, .any, .any, .any, .any, .any, .any, .any, .any, .any, .any, .any, .any, .any, .any, .any, .any, .any, .any, .any, .any, .any, .any, .any, .any, .any, .any, .any, .any, .any, .any, .any, .any, .any, .any, .any, .any, .any],
    [some ⟨(.t true), (.box 26 [(.x .str (.var 4)), (.x .bool (.var 5)), (.x (.sl 38 [.str, .str, i6, i6, i6, (.sl 53 [.str, i6])]) (.var 6)), (.x (.sl 55 [i6, i6, i6, i6, .str, i6, i6]) (.var 7)), (.x (.sl 50 [.str, i6]) (.var 8))] false)⟩]⟩,
   9, [1, 3], [55, 56, 57, 58, 11, 61, 62, 63, 66, 67, 68, 69, 70, 71, 72, 73, 74, 75, 76, 77, 78, 79, 80, 81, 82, 83, 84, 85, 86, 87, 88, 89, 90, 91, 92, 93, 94, 95, 96, 97, 98, 99, 100, 101, 102, 103, 104, 105, 106, 107, 108, 109, 110, 111, 112, 113, 114, 115, 116, 117, 118, 119, 120, 121, 122, 123, 124, 125, 126, 127, 128, 6, 64, 65, 59, 60, 10], [.ret, (.exit 0)], []⟩
def L3_1 : LoopSig := ⟨10300, [],
   ⟨[.any, .any, (.c (.x (.sl 40 [i6, i6, i6, i6]) (.var 0))), (.c (.ptr 0 0)), .any, .any, (.c (.x .bool (.var 1))), (.c (.x (.sl 40 [i6, i6, i6, i6]) (.var 2))), .any, .any, (.c (.x i6 (.var 3))), (.c (.x i6 (.var 4))), .any, .any, .any, .any, .any, .any, .any, .any, .any, .any, .any, .any, .any, .any, .any, .any, .any, .any, .any, .any, .any, .any, .any, .any, .any, .any, .any, .any, .any, .any, .any, .any, .any, .any, .any, .any, .any, .any, .any, .any, .any, .any, .any, .any, .any, .any, .any, .any, .any, .any, .any, .any, .any, .any, .any, .any, .any, .any, .any, .any, .any, .any, .any, .any, .any, .any, .any, .any, .any, .any, .any, .any, .any, .any, .any, .any, .any, .any, .any, .any, .any, .any, .any, .any, .any, .any, .any, .any, .any, .any, .any, .any, .any, .any, .any, .any, .any, .any, .any, .any, .any, .any, .any, .any, .any, .any, .any, .any, .any, .any, .any, .any, .any, .any, .any, .any, .any, .any],
    [some ⟨(.t true), (.box 26 [(.x .str (.var 5)), (.x .bool (.var 6)), (.x (.sl 38 [.str, .str, i6, i6, i6, (.sl 53 [.str, i6])]) (.var 7)), (.x (.sl 55 [i6, i6, i6, i6, .str, i6, i6]) (.var 8)), (.x (.sl 50 [.str, i6]) (.var 9))] false)⟩]⟩,
   10, [1, 4], [61, 62, 63, 66, 67, 68, 69, 70, 71, 72, 73, 74, 75, 76, 77, 78, 79, 80, 81, 82, 83, 84, 85, 86, 87, 88, 89, 90, 91, 92, 93, 94, 95, 96, 97, 98, 99, 100, 101, 102, 103, 104, 105, 106, 107, 108, 109, 110, 111, 112, 113, 114, 115, 116, 117, 118, 119, 120, 121, 122, 123, 124, 125, 126, 127, 128, 6, 64, 65, 11], [.ret, (.exit 2)], []⟩
def lt3 : List (Nat × LoopSig) := [(9, L3_0), (12, L3_1)]
theorem k3 : (Code.loops c3).length = 2 := by kernel_rfl
def vt3 : VT :=
  (.need (.t true) (.pre 8 (.cons (.var 0) (.cons (.var 1) (.cons (.var 2) (.cons (.var 3) (.cons (.var 4) (.cons (.n 8) (.cons (.n 6) .nil))))))))
  (.lt (.app 8 (.cons (.var 0) (.cons (.var 1) (.cons (.var 2) (.cons (.var 3) (.cons (.var 4) (.cons (.n 8) (.cons (.n 6) .nil))))))) 0) 1
  (.ite (.ite (.un .not (.var 11)) (.t true) (.bin .lt (.n 10) (.un .len (.var 10))))
   (.need (.t true) (.pre 9 .nil)
   (.lt (.app 9 .nil 0) 1
   (.ret (.cons (.var 12) .nil))))
   (.need (.t true) (.pre 10 (.cons (.var 0) (.cons (.var 1) (.cons (.var 2) (.cons (.var 3) (.cons (.var 4) (.cons (.var 5) (.cons (.var 6) (.cons (.var 7) (.cons (.var 8) (.cons (.var 9) (.cons (.var 10) .nil))))))))))))
   (.lt (.app 10 (.cons (.var 0) (.cons (.var 1) (.cons (.var 2) (.cons (.var 3) (.cons (.var 4) (.cons (.var 5) (.cons (.var 6) (.cons (.var 7) (.cons (.var 8) (.cons (.var 9) (.cons (.var 10) .nil))))))))))) 0) 3
   (.ite (.un .not (.bin .eq (.var 14) (.n 0)))
    (.need (.ite (.bin .eq (.un .len (.var 12)) (.n 0)) (.bin .eq (.un .len (.var 13)) (.n 0)) (.t false)) (.pre 9 .nil)
    (.lt (.app 9 .nil 0) 1
    (.ret (.cons (.ite (.ite (.bin .eq (.un .len (.var 12)) (.n 0)) (.bin .eq (.un .len (.var 13)) (.n 0)) (.t false)) (.var 15) (.t false)) .nil))))
    (.need (.bin .eq (.un .len (.var 12)) (.un .len (.var 10))) (.pre 11 (.cons (.var 0) (.cons (.var 1) (.cons (.var 2) (.cons (.var 3) (.cons (.var 4) (.cons (.var 5) (.cons (.var 6) (.cons (.var 7) (.cons (.var 8) (.cons (.var 9) (.cons (.var 12) (.cons (.var 13) .nil)))))))))))))
    (.lt (.app 11 (.cons (.var 0) (.cons (.var 1) (.cons (.var 2) (.cons (.var 3) (.cons (.var 4) (.cons (.var 5) (.cons (.var 6) (.cons (.var 7) (.cons (.var 8) (.cons (.var 9) (.cons (.var 12) (.cons (.var 13) .nil)))))))))))) 0) 1
    (.ite (.ite (.un .not (.bin .eq (.un .len (.var 12)) (.un .len (.var 10)))) (.t true) (.un .not (.bin .eq (.var 15) (.n 0))))
     (.ret (.cons (.t false) .nil))
     (.need (.t true) (.pre 10301 (.cons (.var 10) (.cons (.t false) (.cons (.var 12) (.cons (.n 0) (.cons (.var 0) (.cons (.var 1) (.cons (.var 2) (.cons (.var 3) (.cons (.var 4) .nil))))))))))
     (.lt (.app 10301 (.cons (.var 10) (.cons (.t false) (.cons (.var 12) (.cons (.n 0) (.cons (.var 0) (.cons (.var 1) (.cons (.var 2) (.cons (.var 3) (.cons (.var 4) .nil))))))))) 0) 3
     (.ite (.bin .eq (.var 16) (.n 0))
      (.ret (.cons (.var 17) .nil))
      (.need (.t true) (.pre 9 .nil)
      (.lt (.app 9 .nil 0) 1
      (.ret (.cons (.var 19) .nil))))))))))))))))
theorem e3 : (fnVT Try.prog (sgOf sg3) (ltOf lt3) S3 Try.f3 c3).slim (S3.ps.map fun p => p.2.length).sum [] = vt3 := by kernel_rfl
def S109 : Sig := ⟨[(false, [(.int .u8)])], [(false, [.bool])], [], none⟩
noncomputable def c109 : Code := Try.f109.body.getD .skip
theorem b109 : Try.f109.body = some c109 := body_some (by kernel_rfl)
theorem n109 : (Try.f109.name == "runtime.NumGoroutine") = false := by kernel_rfl
def sg109 : List (FuncId × Sig) := []
def lt109 : List (Nat × LoopSig) := []
theorem k109 : (Code.loops c109).length = 0 := by kernel_rfl
def vt109 : VT :=
  (.ret (.cons (.ite (.ite (.ite (.bin .le (.n 97) (.var 0)) (.bin .le (.var 0) (.n 122)) (.t false)) (.t true) (.ite (.bin .le (.n 65) (.var 0)) (.bin .le (.var 0) (.n 90)) (.t false))) (.t true) (.bin .eq (.var 0) (.n 95))) .nil))
theorem e109 : (fnVT Try.prog (sgOf sg109) (ltOf lt109) S109 Try.f109 c109).slim (S109.ps.map fun p => p.2.length).sum [] = vt109 := by kernel_rfl
def T109 : FuncId → List D → List D := tabOf []
def fn109 (ρ : List D) : List D := vt109.val T109 ρ
theorem m109 : Meets Try.prog 109 S109 (fun _ => True) fn109 := meets_easy (sgl := sg109) (Φ := T109) mixed ((fun _ h => nomatch h)) Try.func109 b109 n109 k109 e109 (by kernel_rfl)
def S110 : Sig := ⟨[(false, [(.int .u8)])], [(false, [.bool])], [], none⟩
noncomputable def c110 : Code := Try.f110.body.getD .skip
theorem b110 : Try.f110.body = some c110 := body_some (by kernel_rfl)
theorem n110 : (Try.f110.name == "runtime.NumGoroutine") = false := by kernel_rfl
def sg110 : List (FuncId × Sig) := []
def lt110 : List (Nat × LoopSig) := []
theorem k110 : (Code.loops c110).length = 0 := by kernel_rfl
def vt110 : VT :=
  (.ret (.cons (.ite (.bin .le (.n 48) (.var 0)) (.bin .le (.var 0) (.n 57)) (.t false)) .nil))
theorem e110 : (fnVT Try.prog (sgOf sg110) (ltOf lt110) S110 Try.f110 c110).slim (S110.ps.map fun p => p.2.length).sum [] = vt110 := by kernel_rfl
def T110 : FuncId → List D → List D := tabOf []
def fn110 (ρ : List D) : List D := vt110.val T110 ρ
theorem m110 : Meets Try.prog 110 S110 (fun _ => True) fn110 := meets_easy (sgl := sg110) (Φ := T110) mixed ((fun _ h => nomatch h)) Try.func110 b110 n110 k110 e110 (by kernel_rfl)
def S91 : Sig := ⟨[(false, [.str])], [(false, [i6])], [], none⟩
noncomputable def c91 : Code := Try.f91.body.getD .skip
theorem b91 : Try.f91.body = some c91 := body_some (by kernel_rfl)
theorem n91 : (Try.f91.name == "runtime.NumGoroutine") = false := by kernel_rfl
def sg91 : List (FuncId × Sig) := [(109, S109), (110, S110)]
def L91_0 : LoopSig := ⟨19100, [],
   ⟨[(.c (.x .str (.var 0))), .any, .any, (.c (.x i6 (.var 1))), .any, .any, .any, .any, .any, .any, .any, .any, .any, .any, .any, .any, .any, .any, .any, .any, .any, .any, .any, .any, .any, .any, .any],
    []⟩,
   2, [1], [4, 5, 6, 7, 8, 9, 10, 11, 12, 13, 14, 15, 16, 17, 18, 19, 20, 21, 22, 23, 24, 25, 3], [(.exit 0)], []⟩
def lt91 : List (Nat × LoopSig) := [(2, L91_0)]
theorem k91 : (Code.loops c91).length = 1 := by kernel_rfl
noncomputable def lb91_0 : Code := (Code.loops c91).getD 0 .skip
def rt91_0 : VT :=
  (.need (.bin .lt (.var 1) (.un .slen (.var 0))) (.c (.bin .le (.n 0) (.var 1)))
  (.need (.bin .lt (.var 1) (.un .slen (.var 0))) (.c (.bin .lt (.var 1) (.un .slen (.var 0))))
  (.need (.bin .lt (.var 1) (.un .slen (.var 0))) (.pre 109 (.cons (.bin .sidx (.var 0) (.var 1)) .nil))
  (.lt (.app 109 (.cons (.bin .sidx (.var 0) (.var 1)) .nil) 0) 1
  (.need (.ite (.ite (.bin .lt (.var 1) (.un .slen (.var 0))) (.un .not (.var 2)) (.t false)) (.bin .lt (.n 0) (.var 1)) (.t false)) (.c (.bin .le (.n 0) (.var 1)))
  (.need (.ite (.ite (.bin .lt (.var 1) (.un .slen (.var 0))) (.un .not (.var 2)) (.t false)) (.bin .lt (.n 0) (.var 1)) (.t false)) (.c (.bin .lt (.var 1) (.un .slen (.var 0))))
  (.need (.ite (.ite (.bin .lt (.var 1) (.un .slen (.var 0))) (.un .not (.var 2)) (.t false)) (.bin .lt (.n 0) (.var 1)) (.t false)) (.pre 110 (.cons (.bin .sidx (.var 0) (.var 1)) .nil))
  (.lt (.app 110 (.cons (.bin .sidx (.var 0) (.var 1)) .nil) 0) 1
  (.ite (.ite (.bin .lt (.var 1) (.un .slen (.var 0))) (.ite (.var 2) (.t true) (.ite (.bin .lt (.n 0) (.var 1)) (.var 3) (.t false))) (.t false))
   (.ret (.cons (.n (-1)) (.cons (.bin (.add .i64) (.var 1) (.n 1)) .nil)))
   (.ret (.cons (.n 0) (.cons (.var 1) .nil))))))))))))
theorem le91_0 : (loopVT Try.prog (sgOf sg91) (ltOf lt91) L91_0 lb91_0).slim L91_0.nv [] = rt91_0 := by kernel_rfl
theorem lf91_0 : (firstRegion lb91_0).bind (ltOf lt91) = some L91_0 := by kernel_rfl
theorem lk91_0 : (Code.loops lb91_0).length = 0 := by kernel_rfl
def vt91 : VT :=
  (.need (.t true) (.pre 19100 (.cons (.var 0) (.cons (.n 0) .nil)))
  (.lt (.app 19100 (.cons (.var 0) (.cons (.n 0) .nil)) 0) 2
  (.ret (.cons (.var 2) .nil))))
theorem e91 : (fnVT Try.prog (sgOf sg91) (ltOf lt91) S91 Try.f91 c91).slim (S91.ps.map fun p => p.2.length).sum [] = vt91 := by kernel_rfl
def S92 : Sig := ⟨[(false, [.str])], [(false, [.bool])], [], none⟩
noncomputable def c92 : Code := Try.f92.body.getD .skip
theorem b92 : Try.f92.body = some c92 := body_some (by kernel_rfl)
theorem n92 : (Try.f92.name == "runtime.NumGoroutine") = false := by kernel_rfl
def sg92 : List (FuncId × Sig) := []
def lt92 : List (Nat × LoopSig) := []
theorem k92 : (Code.loops c92).length = 0 := by kernel_rfl
def vt92 : VT :=
  (.ite (.bin .seq (.var 0) (.str ⟨#[100, 105, 103, 114, 97, 112, 104]⟩))
   (.ret (.cons (.t true) .nil))
   (.ite (.bin .seq (.var 0) (.str ⟨#[103, 114, 97, 112, 104]⟩))
    (.ret (.cons (.t true) .nil))
    (.ite (.bin .seq (.var 0) (.str ⟨#[110, 111, 100, 101]⟩))
     (.ret (.cons (.t true) .nil))
     (.ite (.bin .seq (.var 0) (.str ⟨#[101, 100, 103, 101]⟩))
      (.ret (.cons (.t true) .nil))
      (.ite (.bin .seq (.var 0) (.str ⟨#[115, 101, 116]⟩))
       (.ret (.cons (.t true) .nil))
       (.ite (.bin .seq (.var 0) (.str ⟨#[99, 108, 117, 115, 116, 101, 114]⟩))
        (.ret (.cons (.t true) .nil))
        (.ret (.cons (.t false) .nil))))))))
theorem e92 : (fnVT Try.prog (sgOf sg92) (ltOf lt92) S92 Try.f92 c92).slim (S92.ps.map fun p => p.2.length).sum [] = vt92 := by kernel_rfl
def T92 : FuncId → List D → List D := tabOf []
def fn92 (ρ : List D) : List D := vt92.val T92 ρ
theorem m92 : Meets Try.prog 92 S92 (fun _ => True) fn92 := meets_easy (sgl := sg92) (Φ := T92) mixed ((fun _ h => nomatch h)) Try.func92 b92 n92 k92 e92 (by kernel_rfl)
def S68 : Sig := ⟨[(false, [.str])], [(false, [.bool])], [], none⟩
noncomputable def c68 : Code := Try.f68.body.getD .skip
theorem b68 : Try.f68.body = some c68 := body_some (by kernel_rfl)
theorem n68 : (Try.f68.name == "runtime.NumGoroutine") = false := by kernel_rfl
def sg68 : List (FuncId × Sig) := [(91, S91), (92, S92)]
def lt68 : List (Nat × LoopSig) := []
theorem k68 : (Code.loops c68).length = 0 := by kernel_rfl
def vt68 : VT :=
  (.need (.un .not (.bin .seq (.var 0) (.str ⟨#[]⟩))) (.pre 91 (.cons (.var 0) .nil))
  (.lt (.app 91 (.cons (.var 0) .nil) 0) 1
  (.need (.ite (.ite (.un .not (.bin .seq (.var 0) (.str ⟨#[]⟩))) (.bin .eq (.var 1) (.un .slen (.var 0))) (.t false)) (.bin .le (.un .slen (.var 0)) (.n 16)) (.t false)) (.pre 92 (.cons (.var 0) .nil))
  (.lt (.app 92 (.cons (.var 0) .nil) 0) 1
  (.ret (.cons (.ite (.ite (.ite (.un .not (.bin .seq (.var 0) (.str ⟨#[]⟩))) (.bin .eq (.var 1) (.un .slen (.var 0))) (.t false)) (.bin .le (.un .slen (.var 0)) (.n 16)) (.t false)) (.un .not (.var 2)) (.t false)) .nil))))))
theorem e68 : (fnVT Try.prog (sgOf sg68) (ltOf lt68) S68 Try.f68 c68).slim (S68.ps.map fun p => p.2.length).sum [] = vt68 := by kernel_rfl
def S93 : Sig := ⟨[(true, [.str, .bool, (.sl 38 [.str, .str, i6, i6, i6, (.sl 53 [.str, i6])]), (.sl 55 [i6, i6, i6, i6, .str, i6, i6]), (.sl 50 [.str, i6])]), (false, [.str])], [(false, [i6])], [], none⟩
noncomputable def c93 : Code := Try.f93.body.getD .skip
theorem b93 : Try.f93.body = some c93 := body_some (by kernel_rfl)
theorem n93 : (Try.f93.name == "runtime.NumGoroutine") = false := by kernel_rfl
def sg93 : List (FuncId × Sig) := []
def L93_0 : LoopSig := ⟨19300, [],
   ⟨[.any, (.c (.x .str (.var 0))), (.c (.ptr 0 0)), .any, (.c (.x i6 (.var 1))), (.c (.x i6 (.var 2))), .any, .any, .any, .any, .any, .any, .any, .any, .any, .any, .any, .any, .any, .any, .any, .any],
    [some ⟨(.t true), (.box 26 [(.x .str (.var 3)), (.x .bool (.var 4)), (.x (.sl 38 [.str, .str, i6, i6, i6, (.sl 53 [.str, i6])]) (.var 5)), (.x (.sl 55 [i6, i6, i6, i6, .str, i6, i6]) (.var 6)), (.x (.sl 50 [.str, i6]) (.var 7))] false)⟩]⟩,
   8, [1, 2], [6, 7, 8, 9, 10, 13, 14, 15, 16, 17, 18, 19, 20, 21, 4, 11, 12, 5], [.ret, (.exit 0)], []⟩
def lt93 : List (Nat × LoopSig) := [(2, L93_0)]
theorem k93 : (Code.loops c93).length = 1 := by kernel_rfl
noncomputable def lb93_0 : Code := (Code.loops c93).getD 0 .skip
def rt93_0 : VT :=
  (.ite (.bin .lt (.var 2) (.un .len (.var 5)))
   (.need (.t true) (.c (.bin .le (.n 0) (.var 2)))
   (.ite (.bin .seq (.sel 0 (.var 5) (.var 2)) (.var 0))
    (.ret (.cons (.n 0) (.cons (.var 2) (.cons (.var 2) .nil))))
    (.ret (.cons (.n (-1)) (.cons (.var 1) (.cons (.bin (.add .i64) (.var 2) (.n 1)) .nil))))))
   (.ret (.cons (.n 1) (.cons (.var 1) (.cons (.var 2) .nil)))))
theorem le93_0 : (loopVT Try.prog (sgOf sg93) (ltOf lt93) L93_0 lb93_0).slim L93_0.nv [] = rt93_0 := by kernel_rfl
theorem lf93_0 : (firstRegion lb93_0).bind (ltOf lt93) = some L93_0 := by kernel_rfl
theorem lk93_0 : (Code.loops lb93_0).length = 0 := by kernel_rfl
def vt93 : VT :=
  (.need (.t true) (.pre 19300 (.cons (.var 5) (.cons (.n 0) (.cons (.n 0) (.cons (.var 0) (.cons (.var 1) (.cons (.var 2) (.cons (.var 3) (.cons (.var 4) .nil)))))))))
  (.lt (.app 19300 (.cons (.var 5) (.cons (.n 0) (.cons (.n 0) (.cons (.var 0) (.cons (.var 1) (.cons (.var 2) (.cons (.var 3) (.cons (.var 4) .nil)))))))) 0) 3
  (.ite (.bin .eq (.var 6) (.n 0))
   (.ret (.cons (.var 7) .nil))
   (.ret (.cons (.n (-1)) .nil)))))
theorem e93 : (fnVT Try.prog (sgOf sg93) (ltOf lt93) S93 Try.f93 c93).slim (S93.ps.map fun p => p.2.length).sum [] = vt93 := by kernel_rfl
def S94 : Sig := ⟨[(false, [.str])], [(false, [.bool])], [], none⟩
noncomputable def c94 : Code := Try.f94.body.getD .skip
theorem b94 : Try.f94.body = some c94 := body_some (by kernel_rfl)
theorem n94 : (Try.f94.name == "runtime.NumGoroutine") = false := by kernel_rfl
def sg94 : List (FuncId × Sig) := []
def L94_0 : LoopSig := ⟨19400, [],
   ⟨[(.c (.x .str (.var 0))), .any, (.c (.x .bool (.var 1))), (.c (.x i6 (.var 2))), .any, .any, .any, .any, .any, .any, .any, .any, .any, .any, .any, .any, .any, .any, .any, .any],
    []⟩,
   3, [1, 2], [4, 5, 6, 7, 10, 11, 12, 13, 14, 15, 16, 17, 18, 19, 2, 8, 9, 3], [.ret, (.exit 0)], []⟩
def lt94 : List (Nat × LoopSig) := [(2, L94_0)]
theorem k94 : (Code.loops c94).length = 1 := by kernel_rfl
noncomputable def lb94_0 : Code := (Code.loops c94).getD 0 .skip
def rt94_0 : VT :=
  (.ite (.bin .lt (.var 2) (.un .slen (.var 0)))
   (.need (.t true) (.c (.bin .le (.n 0) (.var 2)))
   (.ite (.ite (.bin .lt (.bin .sidx (.var 0) (.var 2)) (.n 32)) (.t true) (.bin .lt (.n 126) (.bin .sidx (.var 0) (.var 2))))
    (.ret (.cons (.n 0) (.cons (.t false) (.cons (.var 2) .nil))))
    (.ret (.cons (.n (-1)) (.cons (.var 1) (.cons (.bin (.add .i64) (.var 2) (.n 1)) .nil))))))
   (.ret (.cons (.n 1) (.cons (.var 1) (.cons (.var 2) .nil)))))
theorem le94_0 : (loopVT Try.prog (sgOf sg94) (ltOf lt94) L94_0 lb94_0).slim L94_0.nv [] = rt94_0 := by kernel_rfl
theorem lf94_0 : (firstRegion lb94_0).bind (ltOf lt94) = some L94_0 := by kernel_rfl
theorem lk94_0 : (Code.loops lb94_0).length = 0 := by kernel_rfl
def vt94 : VT :=
  (.need (.t true) (.pre 19400 (.cons (.var 0) (.cons (.t false) (.cons (.n 0) .nil))))
  (.lt (.app 19400 (.cons (.var 0) (.cons (.t false) (.cons (.n 0) .nil))) 0) 3
  (.ite (.bin .eq (.var 1) (.n 0))
   (.ret (.cons (.var 2) .nil))
   (.ret (.cons (.t true) .nil)))))
theorem e94 : (fnVT Try.prog (sgOf sg94) (ltOf lt94) S94 Try.f94 c94).slim (S94.ps.map fun p => p.2.length).sum [] = vt94 := by kernel_rfl
def S95 : Sig := ⟨[(false, [(.sl 53 [.str, i6])])], [(false, [i6])], [], none⟩
noncomputable def c95 : Code := Try.f95.body.getD .skip
theorem b95 : Try.f95.body = some c95 := body_some (by kernel_rfl)
theorem n95 : (Try.f95.name == "runtime.NumGoroutine") = false := by kernel_rfl
def sg95 : List (FuncId × Sig) := [(68, S68)]
def L95_0 : LoopSig := ⟨19501, [],
   ⟨[(.c (.x (.sl 53 [.str, i6]) (.var 0))), .any, (.c (.x i6 (.var 1))), (.c (.x i6 (.var 2))), .any, .any, .any, .any, .any, .any, .any, .any, .any, .any, .any, .any, .any, .any, .any, .any, .any, .any, .any, .any, .any, .any, .any, .any, .any, .any, .any, .any, .any, .any, .any, .any, .any, .any, .any, .any, .any, .any, .any, .any, .any, .any, .any, .any],
    []⟩,
   3, [1, 2], [5, 6, 7, 8, 11, 12, 13, 14, 15, 16, 17, 2, 4, 18, 19, 20, 23, 24, 25, 26, 27, 28, 29, 30, 31, 32, 33, 21, 22, 34, 35, 36, 37, 38, 39, 40, 41, 42, 43, 44, 45, 46, 47, 9, 10, 3], [.ret, (.exit 0)], []⟩
def L95_1 : LoopSig := ⟨19500, [],
   ⟨[(.c (.x (.sl 53 [.str, i6]) (.var 0))), .any, (.c (.x i6 (.var 1))), (.c (.x i6 (.var 2))), (.c (.x i6 (.var 3))), .any, .any, .any, .any, .any, .any, .any, .any, .any, .any, .any, .any, .any, .any, .any, .any, .any, .any, .any, .any, .any, .any, .any, .any, .any, .any, .any, .any, .any, .any, .any, .any, .any, .any, .any, .any, .any, .any, .any, .any, .any, .any, .any],
    []⟩,
   4, [1, 3], [18, 19, 20, 23, 24, 25, 26, 27, 28, 29, 30, 31, 32, 33, 2, 21, 22, 4], [.ret, (.exit 2)], []⟩
def lt95 : List (Nat × LoopSig) := [(2, L95_0), (7, L95_1)]
theorem k95 : (Code.loops c95).length = 2 := by kernel_rfl
noncomputable def lb95_0 : Code := (Code.loops c95).getD 0 .skip
noncomputable def lb95_1 : Code := (Code.loops c95).getD 1 .skip
def rt95_0 : VT :=
  (.ite (.bin .lt (.var 2) (.un .len (.var 0)))
   (.need (.t true) (.c (.bin .le (.n 0) (.var 2)))
   (.need (.t true) (.pre 68 (.cons (.sel 0 (.var 0) (.var 2)) .nil))
   (.lt (.app 68 (.cons (.sel 0 (.var 0) (.var 2)) .nil) 0) 1
   (.ite (.un .not (.var 3))
    (.ret (.cons (.n 0) (.cons (.n 5) (.cons (.var 2) .nil))))
    (.need (.t true) (.pre 19500 (.cons (.var 0) (.cons (.var 1) (.cons (.var 2) (.cons (.n 0) .nil)))))
    (.lt (.app 19500 (.cons (.var 0) (.cons (.var 1) (.cons (.var 2) (.cons (.n 0) .nil)))) 0) 3
    (.ite (.bin .eq (.var 4) (.n 0))
     (.ret (.cons (.n 0) (.cons (.var 5) (.cons (.var 2) .nil))))
     (.ite (.ite (.bin .lt (.sel 1 (.var 0) (.var 2)) (.n 0)) (.t true) (.bin .lt (.n 3) (.sel 1 (.var 0) (.var 2))))
      (.ret (.cons (.n 0) (.cons (.n 7) (.cons (.var 2) .nil))))
      (.ret (.cons (.n (-1)) (.cons (.var 5) (.cons (.bin (.add .i64) (.var 2) (.n 1)) .nil))))))))))))
   (.ret (.cons (.n 1) (.cons (.var 1) (.cons (.var 2) .nil)))))
theorem le95_0 : (loopVT Try.prog (sgOf sg95) (ltOf lt95) L95_0 lb95_0).slim L95_0.nv [] = rt95_0 := by kernel_rfl
theorem lf95_0 : (firstRegion lb95_0).bind (ltOf lt95) = some L95_0 := by kernel_rfl
theorem lk95_0 : (Code.loops lb95_0).length = 1 := by kernel_rfl
theorem li95_0_0 : (Code.loops lb95_0).getD 0 .skip = lb95_1 := by kernel_rfl
def rt95_1 : VT :=
  (.ite (.bin .lt (.var 3) (.var 2))
   (.need (.t true) (.c (.bin .le (.n 0) (.var 3)))
   (.need (.t true) (.c (.bin .lt (.var 3) (.un .len (.var 0))))
   (.need (.t true) (.c (.bin .le (.n 0) (.var 2)))
   (.need (.t true) (.c (.bin .lt (.var 2) (.un .len (.var 0))))
   (.ite (.bin .seq (.sel 0 (.var 0) (.var 3)) (.sel 0 (.var 0) (.var 2)))
    (.ret (.cons (.n 0) (.cons (.n 6) (.cons (.var 3) .nil))))
    (.ret (.cons (.n (-1)) (.cons (.var 1) (.cons (.bin (.add .i64) (.var 3) (.n 1)) .nil)))))))))
   (.ret (.cons (.n 1) (.cons (.var 1) (.cons (.var 3) .nil)))))
theorem le95_1 : (loopVT Try.prog (sgOf sg95) (ltOf lt95) L95_1 lb95_1).slim L95_1.nv [] = rt95_1 := by kernel_rfl
theorem lf95_1 : (firstRegion lb95_1).bind (ltOf lt95) = some L95_1 := by kernel_rfl
theorem lk95_1 : (Code.loops lb95_1).length = 0 := by kernel_rfl
def vt95 : VT :=
  (.need (.t true) (.pre 19501 (.cons (.var 0) (.cons (.n 0) (.cons (.n 0) .nil))))
  (.lt (.app 19501 (.cons (.var 0) (.cons (.n 0) (.cons (.n 0) .nil))) 0) 3
  (.ite (.bin .eq (.var 1) (.n 0))
   (.ret (.cons (.var 2) .nil))
   (.ret (.cons (.n 0) .nil)))))
theorem e95 : (fnVT Try.prog (sgOf sg95) (ltOf lt95) S95 Try.f95 c95).slim (S95.ps.map fun p => p.2.length).sum [] = vt95 := by kernel_rfl
def S69 : Sig := ⟨[(true, [.str, .bool, (.sl 38 [.str, .str, i6, i6, i6, (.sl 53 [.str, i6])]), (.sl 55 [i6, i6, i6, i6, .str, i6, i6]), (.sl 50 [.str, i6])]), (false, [i6])], [(false, [i6])], [], none⟩
noncomputable def c69 : Code := Try.f69.body.getD .skip
theorem b69 : Try.f69.body = some c69 := body_some (by kernel_rfl)
theorem n69 : (Try.f69.name == "runtime.NumGoroutine") = false := by kernel_rfl
def sg69 : List (FuncId × Sig) := [(68, S68), (93, S93), (94, S94), (95, S95)]
def lt69 : List (Nat × LoopSig) := []
theorem k69 : (Code.loops c69).length = 0 := by kernel_rfl
def vt69 : VT :=
  (.need (.t true) (.c (.bin .le (.n 0) (.var 5)))
  (.need (.t true) (.c (.bin .lt (.var 5) (.un .len (.var 2))))
  (.need (.t true) (.pre 68 (.cons (.sel 0 (.var 2) (.var 5)) .nil))
  (.lt (.app 68 (.cons (.sel 0 (.var 2) (.var 5)) .nil) 0) 1
  (.ite (.un .not (.var 6))
   (.ret (.cons (.n 5) .nil))
   (.need (.t true) (.pre 93 (.cons (.var 0) (.cons (.var 1) (.cons (.var 2) (.cons (.var 3) (.cons (.var 4) (.cons (.sel 0 (.var 2) (.var 5)) .nil)))))))
   (.lt (.app 93 (.cons (.var 0) (.cons (.var 1) (.cons (.var 2) (.cons (.var 3) (.cons (.var 4) (.cons (.sel 0 (.var 2) (.var 5)) .nil)))))) 0) 1
   (.ite (.un .not (.bin .eq (.var 7) (.var 5)))
    (.ret (.cons (.n 6) .nil))
    (.ite (.bin .lt (.n 32) (.un .slen (.sel 1 (.var 2) (.var 5))))
     (.ret (.cons (.n 2) .nil))
     (.need (.t true) (.pre 94 (.cons (.sel 1 (.var 2) (.var 5)) .nil))
     (.lt (.app 94 (.cons (.sel 1 (.var 2) (.var 5)) .nil) 0) 1
     (.ite (.un .not (.var 8))
      (.ret (.cons (.n 7) .nil))
      (.ite (.ite (.ite (.ite (.ite (.ite (.bin .lt (.sel 2 (.var 2) (.var 5)) (.n 1)) (.t true) (.bin .lt (.n 1048576) (.sel 2 (.var 2) (.var 5)))) (.t true) (.bin .lt (.sel 3 (.var 2) (.var 5)) (.n 1))) (.t true) (.bin .lt (.n 1048576) (.sel 3 (.var 2) (.var 5)))) (.t true) (.bin .lt (.sel 4 (.var 2) (.var 5)) (.n (-1)))) (.t true) (.bin .le (.un .len (.var 4)) (.sel 4 (.var 2) (.var 5))))
       (.ret (.cons (.n 3) .nil))
       (.ite (.bin .lt (.n 8) (.un .len (.sel 5 (.var 2) (.var 5))))
        (.ret (.cons (.n 2) .nil))
        (.need (.t true) (.pre 95 (.cons (.sel 5 (.var 2) (.var 5)) .nil))
        (.lt (.app 95 (.cons (.sel 5 (.var 2) (.var 5)) .nil) 0) 1
        (.ret (.cons (.var 9) .nil))))))))))))))))))
theorem e69 : (fnVT Try.prog (sgOf sg69) (ltOf lt69) S69 Try.f69 c69).slim (S69.ps.map fun p => p.2.length).sum [] = vt69 := by kernel_rfl
def S96 : Sig := ⟨[(true, [.str, .bool, (.sl 38 [.str, .str, i6, i6, i6, (.sl 53 [.str, i6])]), (.sl 55 [i6, i6, i6, i6, .str, i6, i6]), (.sl 50 [.str, i6])]), (false, [i6])], [(false, [i6])], [], none⟩
noncomputable def c96 : Code := Try.f96.body.getD .skip
theorem b96 : Try.f96.body = some c96 := body_some (by kernel_rfl)
theorem n96 : (Try.f96.name == "runtime.NumGoroutine") = false := by kernel_rfl
def sg96 : List (FuncId × Sig) := []
def L96_0 : LoopSig := ⟨19600, [],
   ⟨[.any, (.c (.x i6 (.var 0))), (.c (.ptr 0 0)), .any, .any, (.c (.x i6 (.var 1))), .any, .any, .any, .any, .any, .any, .any, .any, .any, .any, .any],
    [some ⟨(.t true), (.box 26 [(.x .str (.var 2)), (.x .bool (.var 3)), (.x (.sl 38 [.str, .str, i6, i6, i6, (.sl 53 [.str, i6])]) (.var 4)), (.x (.sl 55 [i6, i6, i6, i6, .str, i6, i6]) (.var 5)), (.x (.sl 50 [.str, i6]) (.var 6))] false)⟩]⟩,
   7, [0, 1], [6, 7, 8, 9, 5, 10, 11, 12, 13, 14, 15, 1], [(.exit 0)], []⟩
def lt96 : List (Nat × LoopSig) := [(2, L96_0)]
theorem k96 : (Code.loops c96).length = 1 := by kernel_rfl
noncomputable def lb96_0 : Code := (Code.loops c96).getD 0 .skip
def rt96_0 : VT :=
  (.ite (.bin .le (.n 0) (.var 0))
   (.need (.t true) (.c (.bin .lt (.var 0) (.un .len (.var 6))))
   (.ret (.cons (.n (-1)) (.cons (.sel 1 (.var 6) (.var 0)) (.cons (.bin (.add .i64) (.var 1) (.n 1)) .nil)))))
   (.ret (.cons (.n 0) (.cons (.var 0) (.cons (.var 1) .nil)))))
theorem le96_0 : (loopVT Try.prog (sgOf sg96) (ltOf lt96) L96_0 lb96_0).slim L96_0.nv [] = rt96_0 := by kernel_rfl
theorem lf96_0 : (firstRegion lb96_0).bind (ltOf lt96) = some L96_0 := by kernel_rfl
theorem lk96_0 : (Code.loops lb96_0).length = 0 := by kernel_rfl
def vt96 : VT :=
  (.need (.t true) (.pre 19600 (.cons (.var 5) (.cons (.n 0) (.cons (.var 0) (.cons (.var 1) (.cons (.var 2) (.cons (.var 3) (.cons (.var 4) .nil))))))))
  (.lt (.app 19600 (.cons (.var 5) (.cons (.n 0) (.cons (.var 0) (.cons (.var 1) (.cons (.var 2) (.cons (.var 3) (.cons (.var 4) .nil))))))) 0) 3
  (.ret (.cons (.var 8) .nil))))
theorem e96 : (fnVT Try.prog (sgOf sg96) (ltOf lt96) S96 Try.f96 c96).slim (S96.ps.map fun p => p.2.length).sum [] = vt96 := by kernel_rfl
def S70 : Sig := ⟨[(true, [.str, .bool, (.sl 38 [.str, .str, i6, i6, i6, (.sl 53 [.str, i6])]), (.sl 55 [i6, i6, i6, i6, .str, i6, i6]), (.sl 50 [.str, i6])]), (false, [i6])], [(false, [i6])], [], none⟩
noncomputable def c70 : Code := Try.f70.body.getD .skip
theorem b70 : Try.f70.body = some c70 := body_some (by kernel_rfl)
theorem n70 : (Try.f70.name == "runtime.NumGoroutine") = false := by kernel_rfl
def sg70 : List (FuncId × Sig) := [(68, S68), (93, S93), (96, S96)]
def L70_0 : LoopSig := ⟨17000, [],
   ⟨[.any, (.c (.x i6 (.var 0))), (.c (.ptr 0 0)), .any, (.c (.x i6 (.var 1))), (.c (.ptr 1 0)), (.c (.x i6 (.var 2))), .any, .any, .any, .any, .any, .any, .any, .any, .any, .any, .any, .any, .any, .any, .any, .any, .any, .any, .any, .any, .any, .any, .any, .any, .any, .any, .any, .any, .any, .any, .any, .any, .any, .any, .any, .any, .any, .any, .any, .any, .any],
    [some ⟨(.t true), (.box 26 [(.x .str (.var 3)), (.x .bool (.var 4)), (.x (.sl 38 [.str, .str, i6, i6, i6, (.sl 53 [.str, i6])]) (.var 5)), (.x (.sl 55 [i6, i6, i6, i6, .str, i6, i6]) (.var 6)), (.x (.sl 50 [.str, i6]) (.var 7))] false)⟩, some ⟨(.t true), (.box 50 [(.x .str (.var 8)), (.x i6 (.var 9))] false)⟩]⟩,
   10, [1, 2], [16, 17, 18, 21, 22, 23, 24, 25, 26, 27, 28, 29, 4, 19, 20, 6], [.ret, (.exit 0)], []⟩
def lt70 : List (Nat × LoopSig) := [(5, L70_0)]
theorem k70 : (Code.loops c70).length = 1 := by kernel_rfl
noncomputable def lb70_0 : Code := (Code.loops c70).getD 0 .skip
def rt70_0 : VT :=
  (.ite (.bin .lt (.var 2) (.var 0))
   (.need (.t true) (.c (.bin .le (.n 0) (.var 2)))
   (.need (.t true) (.c (.bin .lt (.var 2) (.un .len (.var 7))))
   (.ite (.bin .seq (.sel 0 (.var 7) (.var 2)) (.var 8))
    (.ret (.cons (.n 0) (.cons (.n 6) (.cons (.var 2) .nil))))
    (.ret (.cons (.n (-1)) (.cons (.var 1) (.cons (.bin (.add .i64) (.var 2) (.n 1)) .nil)))))))
   (.ret (.cons (.n 1) (.cons (.var 1) (.cons (.var 2) .nil)))))
theorem le70_0 : (loopVT Try.prog (sgOf sg70) (ltOf lt70) L70_0 lb70_0).slim L70_0.nv [] = rt70_0 := by kernel_rfl
theorem lf70_0 : (firstRegion lb70_0).bind (ltOf lt70) = some L70_0 := by kernel_rfl
theorem lk70_0 : (Code.loops lb70_0).length = 0 := by kernel_rfl
def vt70 : VT :=
  (.need (.t true) (.c (.bin .le (.n 0) (.var 5)))
  (.need (.t true) (.c (.bin .lt (.var 5) (.un .len (.var 4))))
  (.need (.t true) (.pre 68 (.cons (.sel 0 (.var 4) (.var 5)) .nil))
  (.lt (.app 68 (.cons (.sel 0 (.var 4) (.var 5)) .nil) 0) 1
  (.ite (.un .not (.var 6))
   (.ret (.cons (.n 5) .nil))
   (.need (.t true) (.pre 17000 (.cons (.var 5) (.cons (.n 0) (.cons (.n 0) (.cons (.var 0) (.cons (.var 1) (.cons (.var 2) (.cons (.var 3) (.cons (.var 4) (.cons (.sel 0 (.var 4) (.var 5)) (.cons (.sel 1 (.var 4) (.var 5)) .nil)))))))))))
   (.lt (.app 17000 (.cons (.var 5) (.cons (.n 0) (.cons (.n 0) (.cons (.var 0) (.cons (.var 1) (.cons (.var 2) (.cons (.var 3) (.cons (.var 4) (.cons (.sel 0 (.var 4) (.var 5)) (.cons (.sel 1 (.var 4) (.var 5)) .nil)))))))))) 0) 3
   (.ite (.bin .eq (.var 7) (.n 0))
    (.ret (.cons (.var 8) .nil))
    (.need (.t true) (.pre 93 (.cons (.var 0) (.cons (.var 1) (.cons (.var 2) (.cons (.var 3) (.cons (.var 4) (.cons (.sel 0 (.var 4) (.var 5)) .nil)))))))
    (.lt (.app 93 (.cons (.var 0) (.cons (.var 1) (.cons (.var 2) (.cons (.var 3) (.cons (.var 4) (.cons (.sel 0 (.var 4) (.var 5)) .nil)))))) 0) 1
    (.ite (.bin .le (.n 0) (.var 10))
     (.ret (.cons (.n 6) .nil))
     (.ite (.ite (.bin .lt (.sel 1 (.var 4) (.var 5)) (.n (-1))) (.t true) (.bin .le (.var 5) (.sel 1 (.var 4) (.var 5))))
      (.ret (.cons (.n 3) .nil))
      (.need (.t true) (.pre 96 (.cons (.var 0) (.cons (.var 1) (.cons (.var 2) (.cons (.var 3) (.cons (.var 4) (.cons (.var 5) .nil)))))))
      (.lt (.app 96 (.cons (.var 0) (.cons (.var 1) (.cons (.var 2) (.cons (.var 3) (.cons (.var 4) (.cons (.var 5) .nil)))))) 0) 1
      (.ite (.bin .lt (.n 6) (.var 11))
       (.ret (.cons (.n 2) .nil))
       (.ret (.cons (.n 0) .nil)))))))))))))))))
theorem e70 : (fnVT Try.prog (sgOf sg70) (ltOf lt70) S70 Try.f70 c70).slim (S70.ps.map fun p => p.2.length).sum [] = vt70 := by kernel_rfl
def S71 : Sig := ⟨[(true, [.str, .bool, (.sl 38 [.str, .str, i6, i6, i6, (.sl 53 [.str, i6])]), (.sl 55 [i6, i6, i6, i6, .str, i6, i6]), (.sl 50 [.str, i6])]), (true, [i6, i6, i6, i6, .str, i6, i6])], [(false, [i6])], [], none⟩
noncomputable def c71 : Code := Try.f71.body.getD .skip
theorem b71 : Try.f71.body = some c71 := body_some (by kernel_rfl)
theorem n71 : (Try.f71.name == "runtime.NumGoroutine") = false := by kernel_rfl
def sg71 : List (FuncId × Sig) := [(94, S94)]
def lt71 : List (Nat × LoopSig) := []
theorem k71 : (Code.loops c71).length = 0 := by kernel_rfl
def vt71 : VT :=
  (.ite (.ite (.ite (.ite (.bin .lt (.var 5) (.n 0)) (.t true) (.bin .le (.un .len (.var 2)) (.var 5))) (.t true) (.bin .lt (.var 6) (.n 0))) (.t true) (.bin .le (.un .len (.var 2)) (.var 6)))
   (.ret (.cons (.n 3) .nil))
   (.need (.un .not (.bin .lt (.var 7) (.n (-1)))) (.c (.bin .le (.n 0) (.var 5)))
   (.need (.un .not (.bin .lt (.var 7) (.n (-1)))) (.c (.bin .lt (.var 5) (.un .len (.var 2))))
   (.need (.un .not (.ite (.ite (.bin .lt (.var 7) (.n (-1))) (.t true) (.bin .le (.un .len (.sel 5 (.var 2) (.var 5))) (.var 7))) (.t true) (.bin .lt (.var 8) (.n (-1))))) (.c (.bin .le (.n 0) (.var 6)))
   (.need (.un .not (.ite (.ite (.bin .lt (.var 7) (.n (-1))) (.t true) (.bin .le (.un .len (.sel 5 (.var 2) (.var 5))) (.var 7))) (.t true) (.bin .lt (.var 8) (.n (-1))))) (.c (.bin .lt (.var 6) (.un .len (.var 2))))
   (.ite (.ite (.ite (.ite (.bin .lt (.var 7) (.n (-1))) (.t true) (.bin .le (.un .len (.sel 5 (.var 2) (.var 5))) (.var 7))) (.t true) (.bin .lt (.var 8) (.n (-1)))) (.t true) (.bin .le (.un .len (.sel 5 (.var 2) (.var 6))) (.var 8)))
    (.ret (.cons (.n 3) .nil))
    (.ite (.bin .lt (.n 32) (.un .slen (.var 9)))
     (.ret (.cons (.n 2) .nil))
     (.need (.t true) (.pre 94 (.cons (.var 9) .nil))
     (.lt (.app 94 (.cons (.var 9) .nil) 0) 1
     (.ite (.ite (.ite (.ite (.ite (.un .not (.var 12)) (.t true) (.bin .lt (.var 10) (.n 1))) (.t true) (.bin .lt (.n 1000) (.var 10))) (.t true) (.bin .lt (.var 11) (.n 1))) (.t true) (.bin .lt (.n 64) (.var 11)))
      (.ret (.cons (.n 7) .nil))
      (.ret (.cons (.n 0) .nil))))))))))))
theorem e71 : (fnVT Try.prog (sgOf sg71) (ltOf lt71) S71 Try.f71 c71).slim (S71.ps.map fun p => p.2.length).sum [] = vt71 := by kernel_rfl
def S42 : Sig := ⟨[(true, [.str, .bool, (.sl 38 [.str, .str, i6, i6, i6, (.sl 53 [.str, i6])]), (.sl 55 [i6, i6, i6, i6, .str, i6, i6]), (.sl 50 [.str, i6])])], [(false, [i6])], [], none⟩
noncomputable def c42 : Code := Try.f42.body.getD .skip
theorem b42 : Try.f42.body = some c42 := body_some (by kernel_rfl)
theorem n42 : (Try.f42.name == "runtime.NumGoroutine") = false := by kernel_rfl
def sg42 : List (FuncId × Sig) := [(68, S68), (69, S69), (70, S70), (71, S71)]
def L42_0 : LoopSig := ⟨14200, [],
   ⟨[.any, (.c (.ptr 0 0)), (.c (.x i6 (.var 0))), (.c (.x i6 (.var 1))), .any, .any, .any, .any, .any, .any, .any, .any, .any, .any, .any, .any, .any, .any, .any, .any, .any, .any, .any, .any, .any, .any, .any, .any, .any, .any, .any, .any, .any, .any, .any, .any, .any, .any, .any, .any, .any, .any, .any, .any, .any, .any, .any, .any, .any, .any, .any, .any, .any, .any, .any, .any, .any, .any, .any, .any, .any, .any, .any, .any, .any, .any, .any, .any, .any, .any, .any, .any],
    [some ⟨(.t true), (.box 26 [(.x .str (.var 2)), (.x .bool (.var 3)), (.x (.sl 38 [.str, .str, i6, i6, i6, (.sl 53 [.str, i6])]) (.var 4)), (.x (.sl 55 [i6, i6, i6, i6, .str, i6, i6]) (.var 5)), (.x (.sl 50 [.str, i6]) (.var 6))] false)⟩]⟩,
   7, [0, 1], [29, 30, 31, 32, 33, 36, 37, 38, 4, 39, 40, 41, 2, 34, 35, 3], [.ret, (.exit 0)], []⟩
def L42_1 : LoopSig := ⟨14201, [],
   ⟨[.any, (.c (.ptr 0 0)), (.c (.x i6 (.var 0))), .any, .any, (.c (.x i6 (.var 1))), .any, .any, .any, .any, .any, .any, .any, .any, .any, .any, .any, .any, .any, .any, .any, .any, .any, .any, .any, .any, .any, .any, .any, .any, .any, .any, .any, .any, .any, .any, .any, .any, .any, .any, .any, .any, .any, .any, .any, .any, .any, .any, .any, .any, .any, .any, .any, .any, .any, .any, .any, .any, .any, .any, .any, .any, .any, .any, .any, .any, .any, .any, .any, .any, .any, .any],
    [some ⟨(.t true), (.box 26 [(.x .str (.var 2)), (.x .bool (.var 3)), (.x (.sl 38 [.str, .str, i6, i6, i6, (.sl 53 [.str, i6])]) (.var 4)), (.x (.sl 55 [i6, i6, i6, i6, .str, i6, i6]) (.var 5)), (.x (.sl 50 [.str, i6]) (.var 6))] false)⟩]⟩,
   7, [0, 1], [42, 43, 44, 45, 46, 49, 50, 51, 6, 52, 53, 54, 2, 47, 48, 5], [.ret, (.exit 2)], []⟩
def L42_2 : LoopSig := ⟨14202, [],
   ⟨[.any, (.c (.ptr 0 0)), (.c (.x i6 (.var 0))), .any, .any, .any, .any, (.c (.x i6 (.var 1))), .any, .any, .any, .any, .any, .any, .any, .any, .any, .any, .any, .any, .any, .any, .any, .any, .any, .any, .any, .any, .any, .any, .any, .any, .any, .any, .any, .any, .any, .any, .any, .any, .any, .any, .any, .any, .any, .any, .any, .any, .any, .any, .any, .any, .any, .any, .any, .any, .any, .any, .any, .any, .any, .any, .any, .any, .any, .any, .any, .any, .any, .any, .any, .any],
    [some ⟨(.t true), (.box 26 [(.x .str (.var 2)), (.x .bool (.var 3)), (.x (.sl 38 [.str, .str, i6, i6, i6, (.sl 53 [.str, i6])]) (.var 4)), (.x (.sl 55 [i6, i6, i6, i6, .str, i6, i6]) (.var 5)), (.x (.sl 50 [.str, i6]) (.var 6))] false)⟩]⟩,
   7, [0, 1], [55, 56, 57, 58, 59, 62, 63, 64, 65, 66, 67, 68, 8, 69, 70, 71, 2, 60, 61, 7], [.ret, (.exit 4)], []⟩
def lt42 : List (Nat × LoopSig) := [(6, L42_0), (12, L42_1), (18, L42_2)]
theorem k42 : (Code.loops c42).length = 3 := by kernel_rfl
noncomputable def lb42_0 : Code := (Code.loops c42).getD 0 .skip
noncomputable def lb42_1 : Code := (Code.loops c42).getD 1 .skip
noncomputable def lb42_2 : Code := (Code.loops c42).getD 2 .skip
def rt42_0 : VT :=
  (.ite (.bin .lt (.var 1) (.un .len (.var 4)))
   (.need (.t true) (.pre 69 (.cons (.var 2) (.cons (.var 3) (.cons (.var 4) (.cons (.var 5) (.cons (.var 6) (.cons (.var 1) .nil)))))))
   (.lt (.app 69 (.cons (.var 2) (.cons (.var 3) (.cons (.var 4) (.cons (.var 5) (.cons (.var 6) (.cons (.var 1) .nil)))))) 0) 1
   (.ite (.un .not (.bin .eq (.var 7) (.n 0)))
    (.ret (.cons (.n 0) (.cons (.var 7) (.cons (.var 1) .nil))))
    (.ret (.cons (.n (-1)) (.cons (.var 0) (.cons (.bin (.add .i64) (.var 1) (.n 1)) .nil)))))))
   (.ret (.cons (.n 1) (.cons (.var 0) (.cons (.var 1) .nil)))))
theorem le42_0 : (loopVT Try.prog (sgOf sg42) (ltOf lt42) L42_0 lb42_0).slim L42_0.nv [] = rt42_0 := by kernel_rfl
theorem lf42_0 : (firstRegion lb42_0).bind (ltOf lt42) = some L42_0 := by kernel_rfl
theorem lk42_0 : (Code.loops lb42_0).length = 0 := by kernel_rfl
def rt42_1 : VT :=
  (.ite (.bin .lt (.var 1) (.un .len (.var 6)))
   (.need (.t true) (.pre 70 (.cons (.var 2) (.cons (.var 3) (.cons (.var 4) (.cons (.var 5) (.cons (.var 6) (.cons (.var 1) .nil)))))))
   (.lt (.app 70 (.cons (.var 2) (.cons (.var 3) (.cons (.var 4) (.cons (.var 5) (.cons (.var 6) (.cons (.var 1) .nil)))))) 0) 1
   (.ite (.un .not (.bin .eq (.var 7) (.n 0)))
    (.ret (.cons (.n 0) (.cons (.var 7) (.cons (.var 1) .nil))))
    (.ret (.cons (.n (-1)) (.cons (.var 0) (.cons (.bin (.add .i64) (.var 1) (.n 1)) .nil)))))))
   (.ret (.cons (.n 1) (.cons (.var 0) (.cons (.var 1) .nil)))))
theorem le42_1 : (loopVT Try.prog (sgOf sg42) (ltOf lt42) L42_1 lb42_1).slim L42_1.nv [] = rt42_1 := by kernel_rfl
theorem lf42_1 : (firstRegion lb42_1).bind (ltOf lt42) = some L42_1 := by kernel_rfl
theorem lk42_1 : (Code.loops lb42_1).length = 0 := by kernel_rfl
def rt42_2 : VT :=
  (.ite (.bin .lt (.var 1) (.un .len (.var 5)))
   (.need (.t true) (.c (.bin .le (.n 0) (.var 1)))
   (.need (.t true) (.pre 71 (.cons (.var 2) (.cons (.var 3) (.cons (.var 4) (.cons (.var 5) (.cons (.var 6) (.cons (.sel 0 (.var 5) (.var 1)) (.cons (.sel 1 (.var 5) (.var 1)) (.cons (.sel 2 (.var 5) (.var 1)) (.cons (.sel 3 (.var 5) (.var 1)) (.cons (.sel 4 (.var 5) (.var 1)) (.cons (.sel 5 (.var 5) (.var 1)) (.cons (.sel 6 (.var 5) (.var 1)) .nil)))))))))))))
   (.lt (.app 71 (.cons (.var 2) (.cons (.var 3) (.cons (.var 4) (.cons (.var 5) (.cons (.var 6) (.cons (.sel 0 (.var 5) (.var 1)) (.cons (.sel 1 (.var 5) (.var 1)) (.cons (.sel 2 (.var 5) (.var 1)) (.cons (.sel 3 (.var 5) (.var 1)) (.cons (.sel 4 (.var 5) (.var 1)) (.cons (.sel 5 (.var 5) (.var 1)) (.cons (.sel 6 (.var 5) (.var 1)) .nil)))))))))))) 0) 1
   (.ite (.un .not (.bin .eq (.var 7) (.n 0)))
    (.ret (.cons (.n 0) (.cons (.var 7) (.cons (.var 1) .nil))))
    (.ret (.cons (.n (-1)) (.cons (.var 0) (.cons (.bin (.add .i64) (.var 1) (.n 1)) .nil))))))))
   (.ret (.cons (.n 1) (.cons (.var 0) (.cons (.var 1) .nil)))))
theorem le42_2 : (loopVT Try.prog (sgOf sg42) (ltOf lt42) L42_2 lb42_2).slim L42_2.nv [] = rt42_2 := by kernel_rfl
theorem lf42_2 : (firstRegion lb42_2).bind (ltOf lt42) = some L42_2 := by kernel_rfl
theorem lk42_2 : (Code.loops lb42_2).length = 0 := by kernel_rfl
def vt42 : VT :=
  (.ite (.ite (.ite (.bin .lt (.n 64) (.un .len (.var 2))) (.t true) (.bin .lt (.n 256) (.un .len (.var 3)))) (.t true) (.bin .lt (.n 16) (.un .len (.var 4))))
   (.ret (.cons (.n 2) .nil))
   (.need (.t true) (.pre 68 (.cons (.var 0) .nil))
   (.lt (.app 68 (.cons (.var 0) .nil) 0) 1
   (.ite (.un .not (.var 5))
    (.ret (.cons (.n 5) .nil))
    (.need (.t true) (.pre 14200 (.cons (.n 0) (.cons (.n 0) (.cons (.var 0) (.cons (.var 1) (.cons (.var 2) (.cons (.var 3) (.cons (.var 4) .nil))))))))
    (.lt (.app 14200 (.cons (.n 0) (.cons (.n 0) (.cons (.var 0) (.cons (.var 1) (.cons (.var 2) (.cons (.var 3) (.cons (.var 4) .nil))))))) 0) 3
    (.ite (.bin .eq (.var 6) (.n 0))
     (.ret (.cons (.var 7) .nil))
     (.need (.t true) (.pre 14201 (.cons (.var 7) (.cons (.n 0) (.cons (.var 0) (.cons (.var 1) (.cons (.var 2) (.cons (.var 3) (.cons (.var 4) .nil))))))))
     (.lt (.app 14201 (.cons (.var 7) (.cons (.n 0) (.cons (.var 0) (.cons (.var 1) (.cons (.var 2) (.cons (.var 3) (.cons (.var 4) .nil))))))) 0) 3
     (.ite (.bin .eq (.var 9) (.n 0))
      (.ret (.cons (.var 10) .nil))
      (.need (.t true) (.pre 14202 (.cons (.var 10) (.cons (.n 0) (.cons (.var 0) (.cons (.var 1) (.cons (.var 2) (.cons (.var 3) (.cons (.var 4) .nil))))))))
      (.lt (.app 14202 (.cons (.var 10) (.cons (.n 0) (.cons (.var 0) (.cons (.var 1) (.cons (.var 2) (.cons (.var 3) (.cons (.var 4) .nil))))))) 0) 3
      (.ite (.bin .eq (.var 12) (.n 0))
       (.ret (.cons (.var 13) .nil))
       (.ret (.cons (.n 0) .nil)))))))))))))))
theorem e42 : (fnVT Try.prog (sgOf sg42) (ltOf lt42) S42 Try.f42 c42).slim (S42.ps.map fun p => p.2.length).sum [] = vt42 := by kernel_rfl
def S43 : Sig := ⟨[(true, [i6, i6, i6, i6, i6])], [(false, [.bool])], [], none⟩
noncomputable def c43 : Code := Try.f43.body.getD .skip
theorem b43 : Try.f43.body = some c43 := body_some (by kernel_rfl)
theorem n43 : (Try.f43.name == "runtime.NumGoroutine") = false := by kernel_rfl
def sg43 : List (FuncId × Sig) := []
def lt43 : List (Nat × LoopSig) := []
theorem k43 : (Code.loops c43).length = 0 := by kernel_rfl
def vt43 : VT :=
  (.ret (.cons (.ite (.ite (.ite (.ite (.ite (.ite (.ite (.ite (.ite (.bin .le (.n 0) (.var 0)) (.bin .le (.var 0) (.n 4)) (.t false)) (.bin .le (.n 0) (.var 1)) (.t false)) (.bin .le (.var 1) (.n 1048576)) (.t false)) (.bin .le (.n 0) (.var 2)) (.t false)) (.bin .le (.var 2) (.n 1048576)) (.t false)) (.bin .le (.n 0) (.var 3)) (.t false)) (.bin .le (.var 3) (.n 1048576)) (.t false)) (.bin .le (.n 0) (.var 4)) (.t false)) (.bin .le (.var 4) (.n 100)) (.t false)) .nil))
theorem e43 : (fnVT Try.prog (sgOf sg43) (ltOf lt43) S43 Try.f43 c43).slim (S43.ps.map fun p => p.2.length).sum [] = vt43 := by kernel_rfl
def T43 : FuncId → List D → List D := tabOf []
def fn43 (ρ : List D) : List D := vt43.val T43 ρ
theorem m43 : Meets Try.prog 43 S43 (fun _ => True) fn43 := meets_easy (sgl := sg43) (Φ := T43) mixed ((fun _ h => nomatch h)) Try.func43 b43 n43 k43 e43 (by kernel_rfl)
def S67 : Sig := ⟨[(true, [i6, i6])], [(false, [.bool])], [], none⟩
noncomputable def c67 : Code := Try.f67.body.getD .skip
theorem b67 : Try.f67.body = some c67 := body_some (by kernel_rfl)
theorem n67 : (Try.f67.name == "runtime.NumGoroutine") = false := by kernel_rfl
def sg67 : List (FuncId × Sig) := []
def lt67 : List (Nat × LoopSig) := []
theorem k67 : (Code.loops c67).length = 0 := by kernel_rfl
def vt67 : VT :=
  (.ret (.cons (.ite (.ite (.ite (.bin .le (.n (-268435456)) (.var 0)) (.bin .le (.var 0) (.n 268435456)) (.t false)) (.bin .le (.n (-268435456)) (.var 1)) (.t false)) (.bin .le (.var 1) (.n 268435456)) (.t false)) .nil))
theorem e67 : (fnVT Try.prog (sgOf sg67) (ltOf lt67) S67 Try.f67 c67).slim (S67.ps.map fun p => p.2.length).sum [] = vt67 := by kernel_rfl
def T67 : FuncId → List D → List D := tabOf []
def fn67 (ρ : List D) : List D := vt67.val T67 ρ
theorem m67 : Meets Try.prog 67 S67 (fun _ => True) fn67 := meets_easy (sgl := sg67) (Φ := T67) mixed ((fun _ h => nomatch h)) Try.func67 b67 n67 k67 e67 (by kernel_rfl)
def S36 : Sig := ⟨[(true, [i6, i6, i6, i6])], [(false, [.bool])], [], none⟩
noncomputable def c36 : Code := Try.f36.body.getD .skip
theorem b36 : Try.f36.body = some c36 := body_some (by kernel_rfl)
theorem n36 : (Try.f36.name == "runtime.NumGoroutine") = false := by kernel_rfl
def sg36 : List (FuncId × Sig) := [(67, S67)]
def lt36 : List (Nat × LoopSig) := []
theorem k36 : (Code.loops c36).length = 0 := by kernel_rfl
def vt36 : VT :=
  (.need (.t true) (.pre 67 (.cons (.var 0) (.cons (.var 1) .nil)))
  (.lt (.app 67 (.cons (.var 0) (.cons (.var 1) .nil)) 0) 1
  (.need (.var 4) (.pre 67 (.cons (.var 2) (.cons (.var 3) .nil)))
  (.lt (.app 67 (.cons (.var 2) (.cons (.var 3) .nil)) 0) 1
  (.ret (.cons (.ite (.ite (.ite (.var 4) (.var 5) (.t false)) (.bin .le (.var 0) (.var 2)) (.t false)) (.bin .le (.var 1) (.var 3)) (.t false)) .nil))))))
theorem e36 : (fnVT Try.prog (sgOf sg36) (ltOf lt36) S36 Try.f36 c36).slim (S36.ps.map fun p => p.2.length).sum [] = vt36 := by kernel_rfl
def T36 : FuncId → List D → List D := tabOf [(67, fn67)]
def fn36 (ρ : List D) : List D := vt36.val T36 ρ
theorem m36 : Meets Try.prog 36 S36 (fun _ => True) fn36 := meets_easy (sgl := sg36) (Φ := T36) mixed (List.forall_mem_cons.2 ⟨m67, (fun _ h => nomatch h)⟩) Try.func36 b36 n36 k36 e36 (by kernel_rfl)
def S63 : Sig := ⟨[(true, [i6, i6, i6, i6]), (true, [i6, i6, i6, i6])], [(false, [.bool])], [], none⟩
noncomputable def c63 : Code := Try.f63.body.getD .skip
theorem b63 : Try.f63.body = some c63 := body_some (by kernel_rfl)
theorem n63 : (Try.f63.name == "runtime.NumGoroutine") = false := by kernel_rfl
def sg63 : List (FuncId × Sig) := [(36, S36)]
def lt63 : List (Nat × LoopSig) := []
theorem k63 : (Code.loops c63).length = 0 := by kernel_rfl
def vt63 : VT :=
  (.need (.t true) (.pre 36 (.cons (.var 0) (.cons (.var 1) (.cons (.var 2) (.cons (.var 3) .nil)))))
  (.lt (.app 36 (.cons (.var 0) (.cons (.var 1) (.cons (.var 2) (.cons (.var 3) .nil)))) 0) 1
  (.need (.var 8) (.pre 36 (.cons (.var 4) (.cons (.var 5) (.cons (.var 6) (.cons (.var 7) .nil)))))
  (.lt (.app 36 (.cons (.var 4) (.cons (.var 5) (.cons (.var 6) (.cons (.var 7) .nil)))) 0) 1
  (.ret (.cons (.ite (.ite (.ite (.var 8) (.var 9) (.t false)) (.bin .lt (.bin .max (.var 0) (.var 4)) (.bin .min (.var 2) (.var 6))) (.t false)) (.bin .lt (.bin .max (.var 1) (.var 5)) (.bin .min (.var 3) (.var 7))) (.t false)) .nil))))))
theorem e63 : (fnVT Try.prog (sgOf sg63) (ltOf lt63) S63 Try.f63 c63).slim (S63.ps.map fun p => p.2.length).sum [] = vt63 := by kernel_rfl
def T63 : FuncId → List D → List D := tabOf [(36, fn36)]
def fn63 (ρ : List D) : List D := vt63.val T63 ρ
theorem m63 : Meets Try.prog 63 S63 (fun _ => True) fn63 := meets_easy (sgl := sg63) (Φ := T63) mixed (List.forall_mem_cons.2 ⟨m36, (fun _ h => nomatch h)⟩) Try.func63 b63 n63 k63 e63 (by kernel_rfl)
def S13 : Sig := ⟨[(true, [.str, .bool, (.sl 38 [.str, .str, i6, i6, i6, (.sl 53 [.str, i6])]), (.sl 55 [i6, i6, i6, i6, .str, i6, i6]), (.sl 50 [.str, i6])]), (true, [i6, i6, i6, i6, i6]), (false, [(.sl 40 [i6, i6, i6, i6])])], [(false, [(.sl 40 [i6, i6, i6, i6])]), (false, [i6])], [], none⟩
def S4 : Sig := ⟨[(true, [.str, .bool, (.sl 38 [.str, .str, i6, i6, i6, (.sl 53 [.str, i6])]), (.sl 55 [i6, i6, i6, i6, .str, i6, i6]), (.sl 50 [.str, i6])]), (true, [i6, i6, i6, i6, i6]), (false, [(.sl 40 [i6, i6, i6, i6])])], [(false, [.bool])], [], none⟩
noncomputable def c4 : Code := Try.f4.body.getD .skip
theorem b4 : Try.f4.body = some c4 := body_some (by kernel_rfl)
def sg4 : List (FuncId × Sig) := [(8, S8), (9, S9), (12, S12), (13, S13), (14, S14)]
def lt4 : List (Nat × LoopSig) := []
theorem k4 : (Code.loops c4).length = 0 := by kernel_rfl
def vt4 : VT :=
  (.need (.t true) (.pre 8 (.cons (.var 0) (.cons (.var 1) (.cons (.var 2) (.cons (.var 3) (.cons (.var 4) (.cons (.n 8) (.cons (.n 6) .nil))))))))
  (.lt (.app 8 (.cons (.var 0) (.cons (.var 1) (.cons (.var 2) (.cons (.var 3) (.cons (.var 4) (.cons (.n 8) (.cons (.n 6) .nil))))))) 0) 1
  (.ite (.ite (.un .not (.var 11)) (.t true) (.bin .lt (.n 10) (.un .len (.var 10))))
   (.need (.t true) (.pre 9 .nil)
   (.lt (.app 9 .nil 0) 1
   (.ret (.cons (.var 12) .nil))))
   (.need (.t true) (.pre 12 (.cons (.var 0) (.cons (.var 1) (.cons (.var 2) (.cons (.var 3) (.cons (.var 4) (.cons (.var 5) (.cons (.var 6) (.cons (.var 7) (.cons (.var 8) (.cons (.var 9) (.cons (.var 10) .nil))))))))))))
   (.lt (.app 12 (.cons (.var 0) (.cons (.var 1) (.cons (.var 2) (.cons (.var 3) (.cons (.var 4) (.cons (.var 5) (.cons (.var 6) (.cons (.var 7) (.cons (.var 8) (.cons (.var 9) (.cons (.var 10) .nil))))))))))) 0) 2
   (.need (.t true) (.pre 13 (.cons (.var 0) (.cons (.var 1) (.cons (.var 2) (.cons (.var 3) (.cons (.var 4) (.cons (.var 5) (.cons (.var 6) (.cons (.var 7) (.cons (.var 8) (.cons (.var 9) (.cons (.var 10) .nil))))))))))))
   (.lt (.app 13 (.cons (.var 0) (.cons (.var 1) (.cons (.var 2) (.cons (.var 3) (.cons (.var 4) (.cons (.var 5) (.cons (.var 6) (.cons (.var 7) (.cons (.var 8) (.cons (.var 9) (.cons (.var 10) .nil))))))))))) 0) 2
   (.need (.t true) (.pre 14 (.cons (.var 12) (.cons (.var 14) .nil)))
   (.lt (.app 14 (.cons (.var 12) (.cons (.var 14) .nil)) 0) 1
   (.need (.ite (.var 16) (.bin .eq (.var 13) (.var 15)) (.t false)) (.pre 9 .nil)
   (.lt (.app 9 .nil 0) 1
   (.ret (.cons (.ite (.ite (.var 16) (.bin .eq (.var 13) (.var 15)) (.t false)) (.var 17) (.t false)) .nil)))))))))))))
theorem e4 : (fnVT Try.prog (sgOf sg4) (ltOf lt4) S4 Try.f4 c4).slim (S4.ps.map fun p => p.2.length).sum [] = vt4 := by kernel_rfl
def vt40 : VT :=
  (.ret (.cons (.bin (.add .i64) (.var 0) (.var 4)) (.cons (.bin (.add .i64) (.var 1) (.var 5)) (.cons (.bin (.add .i64) (.var 2) (.var 4)) (.cons (.bin (.add .i64) (.var 3) (.var 5)) .nil)))))
def T40 : FuncId → List D → List D := tabOf []
def fn40 (ρ : List D) : List D := vt40.val T40 ρ
def S15 : Sig := ⟨[(true, [.str, .bool, (.sl 38 [.str, .str, i6, i6, i6, (.sl 53 [.str, i6])]), (.sl 55 [i6, i6, i6, i6, .str, i6, i6]), (.sl 50 [.str, i6])]), (true, [i6, i6, i6, i6, i6]), (false, [(.sl 40 [i6, i6, i6, i6])])], [(false, [(.sl 40 [i6, i6, i6, i6])]), (false, [(.sl 40 [i6, i6, i6, i6])]), (false, [i6])], [], none⟩
def S5 : Sig := ⟨[(true, [.str, .bool, (.sl 38 [.str, .str, i6, i6, i6, (.sl 53 [.str, i6])]), (.sl 55 [i6, i6, i6, i6, .str, i6, i6]), (.sl 50 [.str, i6])]), (true, [i6, i6, i6, i6, i6]), (false, [(.sl 40 [i6, i6, i6, i6])])], [(false, [.bool])], [], none⟩
noncomputable def c5 : Code := Try.f5.body.getD .skip
def sg5 : List (FuncId × Sig) := [(8, S8), (9, S9), (10, S10), (15, S15), (14, S14)]
def lt5 : List (Nat × LoopSig) := []
theorem k5 : (Code.loops c5).length = 0 := by kernel_rfl
def vt5 : VT :=
  (.need (.t true) (.pre 8 (.cons (.var 0) (.cons (.var 1) (.cons (.var 2) (.cons (.var 3) (.cons (.var 4) (.cons (.n 8) (.cons (.n 6) .nil))))))))
  (.lt (.app 8 (.cons (.var 0) (.cons (.var 1) (.cons (.var 2) (.cons (.var 3) (.cons (.var 4) (.cons (.n 8) (.cons (.n 6) .nil))))))) 0) 1
  (.ite (.ite (.un .not (.var 11)) (.t true) (.bin .lt (.n 10) (.un .len (.var 10))))
   (.need (.t true) (.pre 9 .nil)
   (.lt (.app 9 .nil 0) 1
   (.ret (.cons (.var 12) .nil))))
   (.need (.t true) (.pre 10 (.cons (.var 0) (.cons (.var 1) (.cons (.var 2) (.cons (.var 3) (.cons (.var 4) (.cons (.var 5) (.cons (.var 6) (.cons (.var 7) (.cons (.var 8) (.cons (.var 9) (.cons (.var 10) .nil))))))))))))
   (.lt (.app 10 (.cons (.var 0) (.cons (.var 1) (.cons (.var 2) (.cons (.var 3) (.cons (.var 4) (.cons (.var 5) (.cons (.var 6) (.cons (.var 7) (.cons (.var 8) (.cons (.var 9) (.cons (.var 10) .nil))))))))))) 0) 3
   (.need (.t true) (.pre 15 (.cons (.var 0) (.cons (.var 1) (.cons (.var 2) (.cons (.var 3) (.cons (.var 4) (.cons (.var 5) (.cons (.var 6) (.cons (.var 7) (.cons (.var 8) (.cons (.var 9) (.cons (.var 10) .nil))))))))))))
   (.lt (.app 15 (.cons (.var 0) (.cons (.var 1) (.cons (.var 2) (.cons (.var 3) (.cons (.var 4) (.cons (.var 5) (.cons (.var 6) (.cons (.var 7) (.cons (.var 8) (.cons (.var 9) (.cons (.var 10) .nil))))))))))) 0) 3
   (.need (.t true) (.pre 14 (.cons (.var 12) (.cons (.var 15) .nil)))
   (.lt (.app 14 (.cons (.var 12) (.cons (.var 15) .nil)) 0) 1
   (.need (.var 18) (.pre 14 (.cons (.var 13) (.cons (.var 16) .nil)))
   (.lt (.app 14 (.cons (.var 13) (.cons (.var 16) .nil)) 0) 1
   (.need (.ite (.ite (.var 18) (.var 19) (.t false)) (.bin .eq (.var 14) (.var 17)) (.t false)) (.pre 9 .nil)
   (.lt (.app 9 .nil 0) 1
   (.ret (.cons (.ite (.ite (.ite (.var 18) (.var 19) (.t false)) (.bin .eq (.var 14) (.var 17)) (.t false)) (.var 20) (.t false)) .nil)))))))))))))))
theorem e5 : (fnVT Try.prog (sgOf sg5) (ltOf lt5) S5 Try.f5 c5).slim (S5.ps.map fun p => p.2.length).sum [] = vt5 := by kernel_rfl
def S44 : Sig := ⟨[(false, [(.sl 40 [i6, i6, i6, i6])]), (false, [i6])], [(false, [.bool])], [], none⟩
noncomputable def c44 : Code := Try.f44.body.getD .skip
theorem b44 : Try.f44.body = some c44 := body_some (by kernel_rfl)
theorem n44 : (Try.f44.name == "runtime.NumGoroutine") = false := by kernel_rfl
def sg44 : List (FuncId × Sig) := [(36, S36)]
def L44_0 : LoopSig := ⟨14400, [],
   ⟨[(.c (.x (.sl 40 [i6, i6, i6, i6]) (.var 0))), .any, .any, .any, (.c (.x .bool (.var 1))), (.c (.x i6 (.var 2))), .any, .any, .any, .any, .any, .any, .any, .any, .any, .any, .any, .any, .any, .any, .any, .any],
    []⟩,
   3, [1, 2], [6, 7, 8, 9, 12, 13, 14, 15, 16, 17, 4, 10, 11, 5], [.ret, (.exit 0)], []⟩
def lt44 : List (Nat × LoopSig) := [(2, L44_0)]
theorem k44 : (Code.loops c44).length = 1 := by kernel_rfl
noncomputable def lb44_0 : Code := (Code.loops c44).getD 0 .skip
def rt44_0 : VT :=
  (.ite (.bin .lt (.var 2) (.un .len (.var 0)))
   (.need (.t true) (.c (.bin .le (.n 0) (.var 2)))
   (.need (.t true) (.pre 36 (.cons (.sel 0 (.var 0) (.var 2)) (.cons (.sel 1 (.var 0) (.var 2)) (.cons (.sel 2 (.var 0) (.var 2)) (.cons (.sel 3 (.var 0) (.var 2)) .nil)))))
   (.lt (.app 36 (.cons (.sel 0 (.var 0) (.var 2)) (.cons (.sel 1 (.var 0) (.var 2)) (.cons (.sel 2 (.var 0) (.var 2)) (.cons (.sel 3 (.var 0) (.var 2)) .nil)))) 0) 1
   (.ite (.un .not (.var 3))
    (.ret (.cons (.n 0) (.cons (.t false) (.cons (.var 2) .nil))))
    (.ret (.cons (.n (-1)) (.cons (.var 1) (.cons (.bin (.add .i64) (.var 2) (.n 1)) .nil))))))))
   (.ret (.cons (.n 1) (.cons (.var 1) (.cons (.var 2) .nil)))))
theorem le44_0 : (loopVT Try.prog (sgOf sg44) (ltOf lt44) L44_0 lb44_0).slim L44_0.nv [] = rt44_0 := by kernel_rfl
theorem lf44_0 : (firstRegion lb44_0).bind (ltOf lt44) = some L44_0 := by kernel_rfl
theorem lk44_0 : (Code.loops lb44_0).length = 0 := by kernel_rfl
def vt44 : VT :=
  (.need (.t true) (.pre 14400 (.cons (.var 0) (.cons (.t false) (.cons (.n 0) .nil))))
  (.lt (.app 14400 (.cons (.var 0) (.cons (.t false) (.cons (.n 0) .nil))) 0) 3
  (.ite (.bin .eq (.var 2) (.n 0))
   (.ret (.cons (.var 3) .nil))
   (.ret (.cons (.bin .eq (.un .len (.var 0)) (.var 1)) .nil)))))
theorem e44 : (fnVT Try.prog (sgOf sg44) (ltOf lt44) S44 Try.f44 c44).slim (S44.ps.map fun p => p.2.length).sum [] = vt44 := by kernel_rfl
def S73 : Sig := ⟨[(true, [i6, i6, i6, i6]), (false, [i6])], [(true, [i6, i6, i6, i6])], [], none⟩
noncomputable def c73 : Code := Try.f73.body.getD .skip
theorem b73 : Try.f73.body = some c73 := body_some (by kernel_rfl)
theorem n73 : (Try.f73.name == "runtime.NumGoroutine") = false := by kernel_rfl
def sg73 : List (FuncId × Sig) := [(36, S36)]
def lt73 : List (Nat × LoopSig) := []
theorem k73 : (Code.loops c73).length = 0 := by kernel_rfl
def vt73 : VT :=
  (.need (.t true) (.pre 36 (.cons (.var 0) (.cons (.var 1) (.cons (.var 2) (.cons (.var 3) .nil)))))
  (.lt (.app 36 (.cons (.var 0) (.cons (.var 1) (.cons (.var 2) (.cons (.var 3) .nil)))) 0) 1
  (.ite (.ite (.ite (.un .not (.var 5)) (.t true) (.bin .lt (.var 4) (.n (-536870912)))) (.t true) (.bin .lt (.n 536870912) (.var 4)))
   (.ret (.cons (.n 0) (.cons (.n 0) (.cons (.n 0) (.cons (.n 0) .nil)))))
   (.need (.t true) (.pre 36 (.cons (.bin (.sub .i64) (.var 0) (.var 4)) (.cons (.bin (.sub .i64) (.var 1) (.var 4)) (.cons (.bin (.add .i64) (.var 2) (.var 4)) (.cons (.bin (.add .i64) (.var 3) (.var 4)) .nil)))))
   (.lt (.app 36 (.cons (.bin (.sub .i64) (.var 0) (.var 4)) (.cons (.bin (.sub .i64) (.var 1) (.var 4)) (.cons (.bin (.add .i64) (.var 2) (.var 4)) (.cons (.bin (.add .i64) (.var 3) (.var 4)) .nil)))) 0) 1
   (.ite (.un .not (.var 6))
    (.ret (.cons (.n 0) (.cons (.n 0) (.cons (.n 0) (.cons (.n 0) .nil)))))
    (.ret (.cons (.bin (.sub .i64) (.var 0) (.var 4)) (.cons (.bin (.sub .i64) (.var 1) (.var 4)) (.cons (.bin (.add .i64) (.var 2) (.var 4)) (.cons (.bin (.add .i64) (.var 3) (.var 4)) .nil)))))))))))
theorem e73 : (fnVT Try.prog (sgOf sg73) (ltOf lt73) S73 Try.f73 c73).slim (S73.ps.map fun p => p.2.length).sum [] = vt73 := by kernel_rfl
def T73 : FuncId → List D → List D := tabOf [(36, fn36)]
def fn73 (ρ : List D) : List D := vt73.val T73 ρ
theorem m73 : Meets Try.prog 73 S73 (fun _ => True) fn73 := meets_easy (sgl := sg73) (Φ := T73) mixed (List.forall_mem_cons.2 ⟨m36, (fun _ h => nomatch h)⟩) Try.func73 b73 n73 k73 e73 (by kernel_rfl)
def S97 : Sig := ⟨[(true, [i6, i6, i6, i6]), (true, [i6, i6])], [(false, [.bool])], [], none⟩
noncomputable def c97 : Code := Try.f97.body.getD .skip
theorem b97 : Try.f97.body = some c97 := body_some (by kernel_rfl)
theorem n97 : (Try.f97.name == "runtime.NumGoroutine") = false := by kernel_rfl
def sg97 : List (FuncId × Sig) := [(36, S36), (67, S67)]
def lt97 : List (Nat × LoopSig) := []
theorem k97 : (Code.loops c97).length = 0 := by kernel_rfl
def vt97 : VT :=
  (.need (.t true) (.pre 36 (.cons (.var 0) (.cons (.var 1) (.cons (.var 2) (.cons (.var 3) .nil)))))
  (.lt (.app 36 (.cons (.var 0) (.cons (.var 1) (.cons (.var 2) (.cons (.var 3) .nil)))) 0) 1
  (.need (.var 6) (.pre 67 (.cons (.var 4) (.cons (.var 5) .nil)))
  (.lt (.app 67 (.cons (.var 4) (.cons (.var 5) .nil)) 0) 1
  (.ret (.cons (.ite (.ite (.ite (.ite (.ite (.var 6) (.var 7) (.t false)) (.bin .le (.var 0) (.var 4)) (.t false)) (.bin .le (.var 4) (.var 2)) (.t false)) (.bin .le (.var 1) (.var 5)) (.t false)) (.bin .le (.var 5) (.var 3)) (.t false)) .nil))))))
theorem e97 : (fnVT Try.prog (sgOf sg97) (ltOf lt97) S97 Try.f97 c97).slim (S97.ps.map fun p => p.2.length).sum [] = vt97 := by kernel_rfl
def T97 : FuncId → List D → List D := tabOf [(36, fn36), (67, fn67)]
def fn97 (ρ : List D) : List D := vt97.val T97 ρ
theorem m97 : Meets Try.prog 97 S97 (fun _ => True) fn97 := meets_easy (sgl := sg97) (Φ := T97) mixed (List.forall_mem_cons.2 ⟨m36, List.forall_mem_cons.2 ⟨m67, (fun _ h => nomatch h)⟩⟩) Try.func97 b97 n97 k97 e97 (by kernel_rfl)
def S72 : Sig := ⟨[(true, [i6, i6, i6, i6]), (true, [i6, i6, i6, i6])], [(false, [.bool])], [], none⟩
noncomputable def c72 : Code := Try.f72.body.getD .skip
theorem b72 : Try.f72.body = some c72 := body_some (by kernel_rfl)
theorem n72 : (Try.f72.name == "runtime.NumGoroutine") = false := by kernel_rfl
def sg72 : List (FuncId × Sig) := [(36, S36), (97, S97)]
def lt72 : List (Nat × LoopSig) := []
theorem k72 : (Code.loops c72).length = 0 := by kernel_rfl
def vt72 : VT :=
  (.need (.t true) (.pre 36 (.cons (.var 0) (.cons (.var 1) (.cons (.var 2) (.cons (.var 3) .nil)))))
  (.lt (.app 36 (.cons (.var 0) (.cons (.var 1) (.cons (.var 2) (.cons (.var 3) .nil)))) 0) 1
  (.need (.var 8) (.pre 97 (.cons (.var 4) (.cons (.var 5) (.cons (.var 6) (.cons (.var 7) (.cons (.var 0) (.cons (.var 1) .nil)))))))
  (.lt (.app 97 (.cons (.var 4) (.cons (.var 5) (.cons (.var 6) (.cons (.var 7) (.cons (.var 0) (.cons (.var 1) .nil)))))) 0) 1
  (.need (.ite (.var 8) (.var 9) (.t false)) (.pre 97 (.cons (.var 4) (.cons (.var 5) (.cons (.var 6) (.cons (.var 7) (.cons (.var 2) (.cons (.var 3) .nil)))))))
  (.lt (.app 97 (.cons (.var 4) (.cons (.var 5) (.cons (.var 6) (.cons (.var 7) (.cons (.var 2) (.cons (.var 3) .nil)))))) 0) 1
  (.ret (.cons (.ite (.ite (.var 8) (.var 9) (.t false)) (.var 10) (.t false)) .nil))))))))
theorem e72 : (fnVT Try.prog (sgOf sg72) (ltOf lt72) S72 Try.f72 c72).slim (S72.ps.map fun p => p.2.length).sum [] = vt72 := by kernel_rfl
def T72 : FuncId → List D → List D := tabOf [(36, fn36), (97, fn97)]
def fn72 (ρ : List D) : List D := vt72.val T72 ρ
theorem m72 : Meets Try.prog 72 S72 (fun _ => True) fn72 := meets_easy (sgl := sg72) (Φ := T72) mixed (List.forall_mem_cons.2 ⟨m36, List.forall_mem_cons.2 ⟨m97, (fun _ h => nomatch h)⟩⟩) Try.func72 b72 n72 k72 e72 (by kernel_rfl)
def S45 : Sig := ⟨[(true, [i6, i6, i6, i6]), (false, [(.sl 40 [i6, i6, i6, i6])]), (false, [i6]), (false, [i6])], [(false, [.bool])], [], none⟩
noncomputable def c45 : Code := Try.f45.body.getD .skip
theorem b45 : Try.f45.body = some c45 := body_some (by kernel_rfl)
theorem n45 : (Try.f45.name == "runtime.NumGoroutine") = false := by kernel_rfl
def sg45 : List (FuncId × Sig) := [(73, S73), (72, S72)]
def lt45 : List (Nat × LoopSig) := []
theorem k45 : (Code.loops c45).length = 0 := by kernel_rfl
def vt45 : VT :=
  (.need (.un .not (.bin .lt (.var 5) (.n 0))) (.c (.bin .le (.n 0) (.var 5)))
  (.need (.un .not (.bin .lt (.var 5) (.n 0))) (.c (.bin .lt (.var 5) (.un .len (.var 4))))
  (.need (.un .not (.bin .lt (.var 5) (.n 0))) (.pre 73 (.cons (.sel 0 (.var 4) (.var 5)) (.cons (.sel 1 (.var 4) (.var 5)) (.cons (.sel 2 (.var 4) (.var 5)) (.cons (.sel 3 (.var 4) (.var 5)) (.cons (.un (.neg .i64) (.var 6)) .nil))))))
  (.lt (.app 73 (.cons (.sel 0 (.var 4) (.var 5)) (.cons (.sel 1 (.var 4) (.var 5)) (.cons (.sel 2 (.var 4) (.var 5)) (.cons (.sel 3 (.var 4) (.var 5)) (.cons (.un (.neg .i64) (.var 6)) .nil))))) 0) 4
  (.need (.un .not (.bin .lt (.var 5) (.n 0))) (.pre 72 (.cons (.var 0) (.cons (.var 1) (.cons (.var 2) (.cons (.var 3) (.cons (.var 7) (.cons (.var 8) (.cons (.var 9) (.cons (.var 10) .nil)))))))))
  (.lt (.app 72 (.cons (.var 0) (.cons (.var 1) (.cons (.var 2) (.cons (.var 3) (.cons (.var 7) (.cons (.var 8) (.cons (.var 9) (.cons (.var 10) .nil)))))))) 0) 1
  (.ret (.cons (.ite (.bin .lt (.var 5) (.n 0)) (.t true) (.var 11)) .nil))))))))
theorem e45 : (fnVT Try.prog (sgOf sg45) (ltOf lt45) S45 Try.f45 c45).slim (S45.ps.map fun p => p.2.length).sum [] = vt45 := by kernel_rfl
def S98 : Sig := ⟨[(true, [.str, .bool, (.sl 38 [.str, .str, i6, i6, i6, (.sl 53 [.str, i6])]), (.sl 55 [i6, i6, i6, i6, .str, i6, i6]), (.sl 50 [.str, i6])]), (false, [i6]), (false, [i6])], [(false, [.bool])], [], none⟩
noncomputable def c98 : Code := Try.f98.body.getD .skip
theorem b98 : Try.f98.body = some c98 := body_some (by kernel_rfl)
theorem n98 : (Try.f98.name == "runtime.NumGoroutine") = false := by kernel_rfl
def sg98 : List (FuncId × Sig) := []
def L98_0 : LoopSig := ⟨19800, [],
   ⟨[.any, (.c (.x i6 (.var 0))), .any, (.c (.ptr 0 0)), .any, .any, (.c (.x .bool (.var 1))), (.c (.x i6 (.var 2))), .any, .any, .any, .any, .any, .any, .any, .any, .any, .any, .any, .any, .any, .any, .any, .any, .any, .any, .any],
    [some ⟨(.t true), (.box 26 [(.x .str (.var 3)), (.x .bool (.var 4)), (.x (.sl 38 [.str, .str, i6, i6, i6, (.sl 53 [.str, i6])]) (.var 5)), (.x (.sl 55 [i6, i6, i6, i6, .str, i6, i6]) (.var 6)), (.x (.sl 50 [.str, i6]) (.var 7))] false)⟩]⟩,
   8, [1, 2], [16, 17, 24, 25, 26, 6, 18, 19, 20, 21, 22, 23, 7], [.ret, (.exit 0)], []⟩
def lt98 : List (Nat × LoopSig) := [(4, L98_0)]
theorem k98 : (Code.loops c98).length = 1 := by kernel_rfl
noncomputable def lb98_0 : Code := (Code.loops c98).getD 0 .skip
def rt98_0 : VT :=
  (.ite (.bin .le (.n 0) (.var 2))
   (.ite (.bin .eq (.var 2) (.var 0))
    (.ret (.cons (.n 0) (.cons (.t true) (.cons (.var 2) .nil))))
    (.need (.t true) (.c (.bin .lt (.var 2) (.un .len (.var 7))))
    (.ret (.cons (.n (-1)) (.cons (.var 1) (.cons (.sel 1 (.var 7) (.var 2)) .nil))))))
   (.ret (.cons (.n 1) (.cons (.var 1) (.cons (.var 2) .nil)))))
theorem le98_0 : (loopVT Try.prog (sgOf sg98) (ltOf lt98) L98_0 lb98_0).slim L98_0.nv [] = rt98_0 := by kernel_rfl
theorem lf98_0 : (firstRegion lb98_0).bind (ltOf lt98) = some L98_0 := by kernel_rfl
theorem lk98_0 : (Code.loops lb98_0).length = 0 := by kernel_rfl
def vt98 : VT :=
  (.ite (.bin .eq (.var 5) (.n (-1)))
   (.ret (.cons (.t true) .nil))
   (.need (.t true) (.c (.bin .le (.n 0) (.var 6)))
   (.need (.t true) (.c (.bin .lt (.var 6) (.un .len (.var 2))))
   (.need (.t true) (.pre 19800 (.cons (.var 5) (.cons (.t false) (.cons (.sel 4 (.var 2) (.var 6)) (.cons (.var 0) (.cons (.var 1) (.cons (.var 2) (.cons (.var 3) (.cons (.var 4) .nil)))))))))
   (.lt (.app 19800 (.cons (.var 5) (.cons (.t false) (.cons (.sel 4 (.var 2) (.var 6)) (.cons (.var 0) (.cons (.var 1) (.cons (.var 2) (.cons (.var 3) (.cons (.var 4) .nil)))))))) 0) 3
   (.ite (.bin .eq (.var 7) (.n 0))
    (.ret (.cons (.var 8) .nil))
    (.ret (.cons (.t false) .nil))))))))
theorem e98 : (fnVT Try.prog (sgOf sg98) (ltOf lt98) S98 Try.f98 c98).slim (S98.ps.map fun p => p.2.length).sum [] = vt98 := by kernel_rfl
def S74 : Sig := ⟨[(true, [.str, .bool, (.sl 38 [.str, .str, i6, i6, i6, (.sl 53 [.str, i6])]), (.sl 55 [i6, i6, i6, i6, .str, i6, i6]), (.sl 50 [.str, i6])]), (false, [i6])], [(false, [(.sl 3 [i6])])], [], none⟩
noncomputable def c74 : Code := Try.f74.body.getD .skip
theorem b74 : Try.f74.body = some c74 := body_some (by kernel_rfl)
theorem n74 : (Try.f74.name == "runtime.NumGoroutine") = false := by kernel_rfl
def sg74 : List (FuncId × Sig) := [(42, S42), (98, S98)]
def L74_0 : LoopSig := ⟨17400, [(5, none, 3)],
   ⟨[.any, (.c (.x i6 (.var 0))), (.c (.ptr 0 0)), .any, .any, (.c (.row 1 1)), (.c (.x i6 (.var 1))), .any, .any, .any, .any, .any, .any, .any, .any, .any, .any, .any, .any, .any, .any, .any, .any, .any, .any, .any, .any, .any, .any, .any, .any, .any, .any, .any, .any, .any, .any],
    [some ⟨(.t true), (.box 26 [(.x .str (.var 2)), (.x .bool (.var 3)), (.x (.sl 38 [.str, .str, i6, i6, i6, (.sl 53 [.str, i6])]) (.var 4)), (.x (.sl 55 [i6, i6, i6, i6, .str, i6, i6]) (.var 5)), (.x (.sl 50 [.str, i6]) (.var 6))] false)⟩, some ⟨(.t true), (.row 3 [i6] (.var 7) 1 false)⟩]⟩,
   8, [1, 7], [21, 22, 23, 24, 25, 28, 29, 30, 31, 32, 33, 34, 35, 5, 26, 27, 6], [(.exit 0)], [7]⟩
def lt74 : List (Nat × LoopSig) := [(5, L74_0)]
theorem k74 : (Code.loops c74).length = 1 := by kernel_rfl
noncomputable def lb74_0 : Code := (Code.loops c74).getD 0 .skip
def rt74_0 : VT :=
  (.ite (.bin .lt (.var 1) (.un .len (.var 4)))
   (.need (.t true) (.pre 98 (.cons (.var 2) (.cons (.var 3) (.cons (.var 4) (.cons (.var 5) (.cons (.var 6) (.cons (.var 0) (.cons (.var 1) .nil))))))))
   (.lt (.app 98 (.cons (.var 2) (.cons (.var 3) (.cons (.var 4) (.cons (.var 5) (.cons (.var 6) (.cons (.var 0) (.cons (.var 1) .nil))))))) 0) 1
   (.ite (.var 8)
    (.need (.t true) (.c (.bin .le (.un .len (.bin .cat (.var 7) (.lcons (.cons (.var 1) .nil) .lnil))) (.n 17592186044416)))
    (.ret (.cons (.n (-1)) (.cons (.bin (.add .i64) (.var 1) (.n 1)) (.cons (.bin .cat (.var 7) (.lcons (.cons (.var 1) .nil) .lnil)) .nil)))))
    (.ret (.cons (.n (-1)) (.cons (.bin (.add .i64) (.var 1) (.n 1)) (.cons (.var 7) .nil)))))))
   (.ret (.cons (.n 0) (.cons (.var 1) (.cons (.var 7) .nil)))))
theorem le74_0 : (loopVT Try.prog (sgOf sg74) (ltOf lt74) L74_0 lb74_0).slim L74_0.nv [] = rt74_0 := by kernel_rfl
theorem lf74_0 : (firstRegion lb74_0).bind (ltOf lt74) = some L74_0 := by kernel_rfl
theorem lk74_0 : (Code.loops lb74_0).length = 0 := by kernel_rfl
def vt74 : VT :=
  (.need (.t true) (.pre 42 (.cons (.var 0) (.cons (.var 1) (.cons (.var 2) (.cons (.var 3) (.cons (.var 4) .nil))))))
  (.lt (.app 42 (.cons (.var 0) (.cons (.var 1) (.cons (.var 2) (.cons (.var 3) (.cons (.var 4) .nil))))) 0) 1
  (.ite (.ite (.ite (.un .not (.bin .eq (.var 6) (.n 0))) (.t true) (.bin .lt (.var 5) (.n (-1)))) (.t true) (.bin .le (.un .len (.var 4)) (.var 5)))
   (.ret (.cons .lnil .nil))
   (.need (.t true) (.pre 17400 (.cons (.var 5) (.cons (.n 0) (.cons (.var 0) (.cons (.var 1) (.cons (.var 2) (.cons (.var 3) (.cons (.var 4) (.cons .lnil .nil)))))))))
   (.lt (.app 17400 (.cons (.var 5) (.cons (.n 0) (.cons (.var 0) (.cons (.var 1) (.cons (.var 2) (.cons (.var 3) (.cons (.var 4) (.cons .lnil .nil)))))))) 0) 3
   (.ret (.cons (.var 9) .nil)))))))
theorem e74 : (fnVT Try.prog (sgOf sg74) (ltOf lt74) S74 Try.f74 c74).slim (S74.ps.map fun p => p.2.length).sum [] = vt74 := by kernel_rfl
def S75 : Sig := ⟨[(false, [(.sl 3 [i6])]), (false, [i6])], [(false, [.bool])], [], none⟩
noncomputable def c75 : Code := Try.f75.body.getD .skip
theorem b75 : Try.f75.body = some c75 := body_some (by kernel_rfl)
theorem n75 : (Try.f75.name == "runtime.NumGoroutine") = false := by kernel_rfl
def sg75 : List (FuncId × Sig) := []
def L75_0 : LoopSig := ⟨17500, [],
   ⟨[(.c (.x (.sl 3 [i6]) (.var 0))), (.c (.x i6 (.var 1))), .any, .any, (.c (.x .bool (.var 2))), (.c (.x i6 (.var 3))), .any, .any, .any, .any, .any, .any, .any, .any, .any, .any, .any, .any],
    []⟩,
   4, [2, 3], [6, 7, 8, 9, 12, 13, 14, 15, 16, 17, 4, 10, 11, 5], [.ret, (.exit 0)], []⟩
def lt75 : List (Nat × LoopSig) := [(2, L75_0)]
theorem k75 : (Code.loops c75).length = 1 := by kernel_rfl
noncomputable def lb75_0 : Code := (Code.loops c75).getD 0 .skip
def rt75_0 : VT :=
  (.ite (.bin .lt (.var 3) (.un .len (.var 0)))
   (.need (.t true) (.c (.bin .le (.n 0) (.var 3)))
   (.ite (.bin .eq (.sel 0 (.var 0) (.var 3)) (.var 1))
    (.ret (.cons (.n 0) (.cons (.t true) (.cons (.var 3) .nil))))
    (.ret (.cons (.n (-1)) (.cons (.var 2) (.cons (.bin (.add .i64) (.var 3) (.n 1)) .nil))))))
   (.ret (.cons (.n 1) (.cons (.var 2) (.cons (.var 3) .nil)))))
theorem le75_0 : (loopVT Try.prog (sgOf sg75) (ltOf lt75) L75_0 lb75_0).slim L75_0.nv [] = rt75_0 := by kernel_rfl
theorem lf75_0 : (firstRegion lb75_0).bind (ltOf lt75) = some L75_0 := by kernel_rfl
theorem lk75_0 : (Code.loops lb75_0).length = 0 := by kernel_rfl
def vt75 : VT :=
  (.need (.t true) (.pre 17500 (.cons (.var 0) (.cons (.var 1) (.cons (.t false) (.cons (.n 0) .nil)))))
  (.lt (.app 17500 (.cons (.var 0) (.cons (.var 1) (.cons (.t false) (.cons (.n 0) .nil)))) 0) 3
  (.ite (.bin .eq (.var 2) (.n 0))
   (.ret (.cons (.var 3) .nil))
   (.ret (.cons (.t false) .nil)))))
theorem e75 : (fnVT Try.prog (sgOf sg75) (ltOf lt75) S75 Try.f75 c75).slim (S75.ps.map fun p => p.2.length).sum [] = vt75 := by kernel_rfl
def S76 : Sig := ⟨[(true, [.str, .bool, (.sl 38 [.str, .str, i6, i6, i6, (.sl 53 [.str, i6])]), (.sl 55 [i6, i6, i6, i6, .str, i6, i6]), (.sl 50 [.str, i6])]), (false, [i6]), (false, [i6])], [(false, [.bool])], [], none⟩
noncomputable def c76 : Code := Try.f76.body.getD .skip
theorem b76 : Try.f76.body = some c76 := body_some (by kernel_rfl)
theorem n76 : (Try.f76.name == "runtime.NumGoroutine") = false := by kernel_rfl
def sg76 : List (FuncId × Sig) := []
def L76_0 : LoopSig := ⟨17600, [],
   ⟨[.any, (.c (.x i6 (.var 0))), (.c (.x i6 (.var 1))), (.c (.ptr 0 0)), .any, .any, (.c (.x .bool (.var 2))), .any, .any, .any, .any, .any, .any, .any, .any, .any, .any, .any],
    [some ⟨(.t true), (.box 26 [(.x .str (.var 3)), (.x .bool (.var 4)), (.x (.sl 38 [.str, .str, i6, i6, i6, (.sl 53 [.str, i6])]) (.var 5)), (.x (.sl 55 [i6, i6, i6, i6, .str, i6, i6]) (.var 6)), (.x (.sl 50 [.str, i6]) (.var 7))] false)⟩]⟩,
   8, [0, 2], [7, 8, 9, 10, 11, 6, 12, 13, 14, 15, 16, 17, 1], [.ret, (.exit 0)], []⟩
def lt76 : List (Nat × LoopSig) := [(1, L76_0)]
theorem k76 : (Code.loops c76).length = 1 := by kernel_rfl
noncomputable def lb76_0 : Code := (Code.loops c76).getD 0 .skip
def rt76_0 : VT :=
  (.ite (.bin .le (.n 0) (.var 0))
   (.ite (.bin .eq (.var 0) (.var 1))
    (.ret (.cons (.n 0) (.cons (.var 0) (.cons (.t true) .nil))))
    (.need (.t true) (.c (.bin .lt (.var 0) (.un .len (.var 7))))
    (.ret (.cons (.n (-1)) (.cons (.sel 1 (.var 7) (.var 0)) (.cons (.var 2) .nil))))))
   (.ret (.cons (.n 1) (.cons (.var 0) (.cons (.var 2) .nil)))))
theorem le76_0 : (loopVT Try.prog (sgOf sg76) (ltOf lt76) L76_0 lb76_0).slim L76_0.nv [] = rt76_0 := by kernel_rfl
theorem lf76_0 : (firstRegion lb76_0).bind (ltOf lt76) = some L76_0 := by kernel_rfl
theorem lk76_0 : (Code.loops lb76_0).length = 0 := by kernel_rfl
def vt76 : VT :=
  (.need (.t true) (.pre 17600 (.cons (.var 5) (.cons (.var 6) (.cons (.t false) (.cons (.var 0) (.cons (.var 1) (.cons (.var 2) (.cons (.var 3) (.cons (.var 4) .nil)))))))))
  (.lt (.app 17600 (.cons (.var 5) (.cons (.var 6) (.cons (.t false) (.cons (.var 0) (.cons (.var 1) (.cons (.var 2) (.cons (.var 3) (.cons (.var 4) .nil)))))))) 0) 3
  (.ite (.bin .eq (.var 7) (.n 0))
   (.ret (.cons (.var 9) .nil))
   (.ret (.cons (.t false) .nil)))))
theorem e76 : (fnVT Try.prog (sgOf sg76) (ltOf lt76) S76 Try.f76 c76).slim (S76.ps.map fun p => p.2.length).sum [] = vt76 := by kernel_rfl
def S46 : Sig := ⟨[(true, [.str, .bool, (.sl 38 [.str, .str, i6, i6, i6, (.sl 53 [.str, i6])]), (.sl 55 [i6, i6, i6, i6, .str, i6, i6]), (.sl 50 [.str, i6])]), (false, [(.sl 40 [i6, i6, i6, i6])]), (false, [(.sl 40 [i6, i6, i6, i6])])], [(false, [.bool])], [], none⟩
noncomputable def c46 : Code := Try.f46.body.getD .skip
theorem b46 : Try.f46.body = some c46 := body_some (by kernel_rfl)
theorem n46 : (Try.f46.name == "runtime.NumGoroutine") = false := by kernel_rfl
def sg46 : List (FuncId × Sig) := [(63, S63), (74, S74), (75, S75), (76, S76)]
def L46_0 : LoopSig := ⟨14601, [],
   ⟨[.any, (.c (.x (.sl 40 [i6, i6, i6, i6]) (.var 0))), .any, .any, .any, .any, (.c (.x .bool (.var 1))), (.c (.x i6 (.var 2))), .any, .any, .any, .any, .any, .any, .any, .any, .any, .any, .any, .any, .any, .any, .any, .any, .any, .any, .any, .any, .any, .any, .any, .any, .any, .any, .any, .any, .any, .any, .any, .any, .any, .any, .any, .any, .any, .any, .any, .any, .any, .any, .any, .any, .any, .any, .any, .any, .any, .any, .any, .any, .any, .any, .any, .any, .any, .any, .any, .any, .any, .any, .any, .any, .any, .any, .any, .any, .any, .any, .any, .any, .any, .any, .any, .any, .any, .any, .any, .any, .any, .any, .any],
    []⟩,
   3, [1, 2], [13, 14, 15, 16, 8, 19, 20, 21, 24, 25, 26, 27, 28, 29, 30, 31, 32, 6, 22, 23, 17, 18, 7], [.ret, (.exit 0)], []⟩
def L46_1 : LoopSig := ⟨14600, [],
   ⟨[.any, (.c (.x (.sl 40 [i6, i6, i6, i6]) (.var 0))), .any, .any, .any, .any, (.c (.x .bool (.var 1))), (.c (.x i6 (.var 2))), (.c (.x i6 (.var 3))), .any, .any, .any, .any, .any, .any, .any, .any, .any, .any, .any, .any, .any, .any, .any, .any, .any, .any, .any, .any, .any, .any, .any, .any, .any, .any, .any, .any, .any, .any, .any, .any, .any, .any, .any, .any, .any, .any, .any, .any, .any, .any, .any, .any, .any, .any, .any, .any, .any, .any, .any, .any, .any, .any, .any, .any, .any, .any, .any, .any, .any, .any, .any, .any, .any, .any, .any, .any, .any, .any, .any, .any, .any, .any, .any, .any, .any, .any, .any, .any, .any, .any],
    []⟩,
   4, [1, 3], [19, 20, 21, 24, 25, 26, 27, 28, 29, 30, 31, 32, 6, 22, 23, 8], [.ret, (.exit 2)], []⟩
def L46_2 : LoopSig := ⟨14604, [],
   ⟨[.any, (.c (.x (.sl 40 [i6, i6, i6, i6]) (.var 0))), (.c (.x (.sl 40 [i6, i6, i6, i6]) (.var 1))), (.c (.ptr 0 0)), .any, .any, (.c (.x .bool (.var 2))), .any, .any, (.c (.x i6 (.var 3))), .any, .any, .any, .any, .any, .any, .any, .any, .any, .any, .any, .any, .any, .any, .any, .any, .any, .any, .any, .any, .any, .any, .any, .any, .any, .any, .any, .any, .any, .any, .any, .any, .any, .any, .any, .any, .any, .any, .any, .any, .any, .any, .any, .any, .any, .any, .any, .any, .any, .any, .any, .any, .any, .any, .any, .any, .any, .any, .any, .any, .any, .any, .any, .any, .any, .any, .any, .any, .any, .any, .any, .any, .any, .any, .any, .any, .any, .any, .any, .any, .any],
    [some ⟨(.t true), (.box 26 [(.x .str (.var 4)), (.x .bool (.var 5)), (.x (.sl 38 [.str, .str, i6, i6, i6, (.sl 53 [.str, i6])]) (.var 6)), (.x (.sl 55 [i6, i6, i6, i6, .str, i6, i6]) (.var 7)), (.x (.sl 50 [.str, i6]) (.var 8))] false)⟩]⟩,
   9, [2, 3], [33, 34, 35, 36, 39, 40, 41, 10, 11, 42, 43, 44, 45, 48, 49, 50, 51, 52, 53, 54, 55, 56, 57, 58, 59, 60, 61, 62, 6, 46, 47, 12, 63, 64, 65, 68, 69, 70, 71, 72, 73, 74, 75, 76, 77, 78, 79, 80, 81, 82, 83, 84, 85, 86, 87, 88, 89, 90, 66, 67, 37, 38, 9], [.ret, (.exit 4)], []⟩
def L46_3 : LoopSig := ⟨14602, [],
   ⟨[.any, (.c (.x (.sl 40 [i6, i6, i6, i6]) (.var 0))), (.c (.x (.sl 40 [i6, i6, i6, i6]) (.var 1))), .any, .any, .any, (.c (.x .bool (.var 2))), .any, .any, (.c (.x i6 (.var 3))), (.c (.x (.sl 3 [i6]) (.var 4))), (.c (.x i6 (.var 5))), .any, .any, .any, .any, .any, .any, .any, .any, .any, .any, .any, .any, .any, .any, .any, .any, .any, .any, .any, .any, .any, .any, .any, .any, .any, .any, .any, .any, .any, .any, .any, .any, .any, .any, .any, .any, .any, .any, .any, .any, .any, .any, .any, .any, .any, .any, .any, .any, .any, .any, .any, .any, .any, .any, .any, .any, .any, .any, .any, .any, .any, .any, .any, .any, .any, .any, .any, .any, .any, .any, .any, .any, .any, .any, .any, .any, .any, .any, .any],
    []⟩,
   6, [2, 5], [42, 43, 44, 45, 48, 49, 50, 51, 52, 53, 54, 55, 56, 57, 58, 59, 60, 61, 62, 6, 46, 47, 11], [.ret, (.exit 6)], []⟩
def L46_4 : LoopSig := ⟨14603, [],
   ⟨[.any, .any, (.c (.x (.sl 40 [i6, i6, i6, i6]) (.var 0))), (.c (.ptr 0 0)), .any, .any, (.c (.x .bool (.var 1))), .any, .any, (.c (.x i6 (.var 2))), .any, .any, (.c (.x i6 (.var 3))), .any, .any, .any, .any, .any, .any, .any, .any, .any, .any, .any, .any, .any, .any, .any, .any, .any, .any, .any, .any, .any, .any, .any, .any, .any, .any, .any, .any, .any, .any, .any, .any, .any, .any, .any, .any, .any, .any, .any, .any, .any, .any, .any, .any, .any, .any, .any, .any, .any, .any, .any, .any, .any, .any, .any, .any, .any, .any, .any, .any, .any, .any, .any, .any, .any, .any, .any, .any, .any, .any, .any, .any, .any, .any, .any, .any, .any, .any],
    [some ⟨(.t true), (.box 26 [(.x .str (.var 4)), (.x .bool (.var 5)), (.x (.sl 38 [.str, .str, i6, i6, i6, (.sl 53 [.str, i6])]) (.var 6)), (.x (.sl 55 [i6, i6, i6, i6, .str, i6, i6]) (.var 7)), (.x (.sl 50 [.str, i6]) (.var 8))] false)⟩]⟩,
   9, [1, 3], [63, 64, 65, 68, 69, 70, 71, 72, 73, 74, 75, 76, 77, 78, 79, 80, 81, 82, 83, 84, 85, 86, 87, 88, 89, 90, 6, 66, 67, 12], [.ret, (.exit 8)], []⟩
def lt46 : List (Nat × LoopSig) := [(2, L46_0), (5, L46_1), (10, L46_2), (14, L46_3), (19, L46_4)]
theorem k46 : (Code.loops c46).length = 5 := by kernel_rfl
noncomputable def lb46_0 : Code := (Code.loops c46).getD 0 .skip
noncomputable def lb46_1 : Code := (Code.loops c46).getD 1 .skip
noncomputable def lb46_2 : Code := (Code.loops c46).getD 2 .skip
noncomputable def lb46_3 : Code := (Code.loops c46).getD 3 .skip
noncomputable def lb46_4 : Code := (Code.loops c46).getD 4 .skip
def rt46_0 : VT :=
  (.ite (.bin .lt (.var 2) (.un .len (.var 0)))
   (.need (.t true) (.pre 14600 (.cons (.var 0) (.cons (.var 1) (.cons (.var 2) (.cons (.n 0) .nil)))))
   (.lt (.app 14600 (.cons (.var 0) (.cons (.var 1) (.cons (.var 2) (.cons (.n 0) .nil)))) 0) 3
   (.ite (.bin .eq (.var 3) (.n 0))
    (.ret (.cons (.n 0) (.cons (.var 4) (.cons (.var 2) .nil))))
    (.ret (.cons (.n (-1)) (.cons (.var 4) (.cons (.bin (.add .i64) (.var 2) (.n 1)) .nil)))))))
   (.ret (.cons (.n 1) (.cons (.var 1) (.cons (.var 2) .nil)))))
theorem le46_0 : (loopVT Try.prog (sgOf sg46) (ltOf lt46) L46_0 lb46_0).slim L46_0.nv [] = rt46_0 := by kernel_rfl
theorem lf46_0 : (firstRegion lb46_0).bind (ltOf lt46) = some L46_0 := by kernel_rfl
theorem lk46_0 : (Code.loops lb46_0).length = 1 := by kernel_rfl
theorem li46_0_0 : (Code.loops lb46_0).getD 0 .skip = lb46_1 := by kernel_rfl
def rt46_1 : VT :=
  (.ite (.bin .lt (.var 3) (.var 2))
   (.need (.t true) (.c (.bin .le (.n 0) (.var 2)))
   (.need (.t true) (.c (.bin .lt (.var 2) (.un .len (.var 0))))
   (.need (.t true) (.c (.bin .le (.n 0) (.var 3)))
   (.need (.t true) (.c (.bin .lt (.var 3) (.un .len (.var 0))))
   (.need (.t true) (.pre 63 (.cons (.sel 0 (.var 0) (.var 2)) (.cons (.sel 1 (.var 0) (.var 2)) (.cons (.sel 2 (.var 0) (.var 2)) (.cons (.sel 3 (.var 0) (.var 2)) (.cons (.sel 0 (.var 0) (.var 3)) (.cons (.sel 1 (.var 0) (.var 3)) (.cons (.sel 2 (.var 0) (.var 3)) (.cons (.sel 3 (.var 0) (.var 3)) .nil)))))))))
   (.lt (.app 63 (.cons (.sel 0 (.var 0) (.var 2)) (.cons (.sel 1 (.var 0) (.var 2)) (.cons (.sel 2 (.var 0) (.var 2)) (.cons (.sel 3 (.var 0) (.var 2)) (.cons (.sel 0 (.var 0) (.var 3)) (.cons (.sel 1 (.var 0) (.var 3)) (.cons (.sel 2 (.var 0) (.var 3)) (.cons (.sel 3 (.var 0) (.var 3)) .nil)))))))) 0) 1
   (.ite (.var 4)
    (.ret (.cons (.n 0) (.cons (.t true) (.cons (.var 3) .nil))))
    (.ret (.cons (.n (-1)) (.cons (.var 1) (.cons (.bin (.add .i64) (.var 3) (.n 1)) .nil)))))))))))
   (.ret (.cons (.n 1) (.cons (.var 1) (.cons (.var 3) .nil)))))
theorem le46_1 : (loopVT Try.prog (sgOf sg46) (ltOf lt46) L46_1 lb46_1).slim L46_1.nv [] = rt46_1 := by kernel_rfl
theorem lf46_1 : (firstRegion lb46_1).bind (ltOf lt46) = some L46_1 := by kernel_rfl
theorem lk46_1 : (Code.loops lb46_1).length = 0 := by kernel_rfl
def rt46_2 : VT :=
  (.ite (.bin .lt (.var 3) (.un .len (.var 1)))
   (.need (.t true) (.pre 74 (.cons (.var 4) (.cons (.var 5) (.cons (.var 6) (.cons (.var 7) (.cons (.var 8) (.cons (.var 3) .nil)))))))
   (.lt (.app 74 (.cons (.var 4) (.cons (.var 5) (.cons (.var 6) (.cons (.var 7) (.cons (.var 8) (.cons (.var 3) .nil)))))) 0) 1
   (.need (.t true) (.pre 14602 (.cons (.var 0) (.cons (.var 1) (.cons (.var 2) (.cons (.var 3) (.cons (.var 9) (.cons (.n 0) .nil)))))))
   (.lt (.app 14602 (.cons (.var 0) (.cons (.var 1) (.cons (.var 2) (.cons (.var 3) (.cons (.var 9) (.cons (.n 0) .nil)))))) 0) 3
   (.ite (.bin .eq (.var 10) (.n 0))
    (.ret (.cons (.n 0) (.cons (.var 11) (.cons (.var 3) .nil))))
    (.need (.t true) (.pre 14603 (.cons (.var 1) (.cons (.var 11) (.cons (.var 3) (.cons (.n 0) (.cons (.var 4) (.cons (.var 5) (.cons (.var 6) (.cons (.var 7) (.cons (.var 8) .nil))))))))))
    (.lt (.app 14603 (.cons (.var 1) (.cons (.var 11) (.cons (.var 3) (.cons (.n 0) (.cons (.var 4) (.cons (.var 5) (.cons (.var 6) (.cons (.var 7) (.cons (.var 8) .nil))))))))) 0) 3
    (.ite (.bin .eq (.var 13) (.n 0))
     (.ret (.cons (.n 0) (.cons (.var 14) (.cons (.var 3) .nil))))
     (.ret (.cons (.n (-1)) (.cons (.var 14) (.cons (.bin (.add .i64) (.var 3) (.n 1)) .nil))))))))))))
   (.ret (.cons (.n 1) (.cons (.var 2) (.cons (.var 3) .nil)))))
theorem le46_2 : (loopVT Try.prog (sgOf sg46) (ltOf lt46) L46_2 lb46_2).slim L46_2.nv [] = rt46_2 := by kernel_rfl
theorem lf46_2 : (firstRegion lb46_2).bind (ltOf lt46) = some L46_2 := by kernel_rfl
theorem lk46_2 : (Code.loops lb46_2).length = 2 := by kernel_rfl
theorem li46_2_0 : (Code.loops lb46_2).getD 0 .skip = lb46_3 := by kernel_rfl
theorem li46_2_1 : (Code.loops lb46_2).getD 1 .skip = lb46_4 := by kernel_rfl
def rt46_3 : VT :=
  (.ite (.bin .lt (.var 5) (.un .len (.var 0)))
   (.need (.t true) (.pre 75 (.cons (.var 4) (.cons (.var 5) .nil)))
   (.lt (.app 75 (.cons (.var 4) (.cons (.var 5) .nil)) 0) 1
   (.need (.un .not (.var 6)) (.c (.bin .le (.n 0) (.var 5)))
   (.need (.un .not (.var 6)) (.c (.bin .le (.n 0) (.var 3)))
   (.need (.un .not (.var 6)) (.c (.bin .lt (.var 3) (.un .len (.var 1))))
   (.need (.un .not (.var 6)) (.pre 63 (.cons (.sel 0 (.var 0) (.var 5)) (.cons (.sel 1 (.var 0) (.var 5)) (.cons (.sel 2 (.var 0) (.var 5)) (.cons (.sel 3 (.var 0) (.var 5)) (.cons (.sel 0 (.var 1) (.var 3)) (.cons (.sel 1 (.var 1) (.var 3)) (.cons (.sel 2 (.var 1) (.var 3)) (.cons (.sel 3 (.var 1) (.var 3)) .nil)))))))))
   (.lt (.app 63 (.cons (.sel 0 (.var 0) (.var 5)) (.cons (.sel 1 (.var 0) (.var 5)) (.cons (.sel 2 (.var 0) (.var 5)) (.cons (.sel 3 (.var 0) (.var 5)) (.cons (.sel 0 (.var 1) (.var 3)) (.cons (.sel 1 (.var 1) (.var 3)) (.cons (.sel 2 (.var 1) (.var 3)) (.cons (.sel 3 (.var 1) (.var 3)) .nil)))))))) 0) 1
   (.ite (.ite (.un .not (.var 6)) (.var 7) (.t false))
    (.ret (.cons (.n 0) (.cons (.t true) (.cons (.var 5) .nil))))
    (.ret (.cons (.n (-1)) (.cons (.var 2) (.cons (.bin (.add .i64) (.var 5) (.n 1)) .nil))))))))))))
   (.ret (.cons (.n 1) (.cons (.var 2) (.cons (.var 5) .nil)))))
theorem le46_3 : (loopVT Try.prog (sgOf sg46) (ltOf lt46) L46_3 lb46_3).slim L46_3.nv [] = rt46_3 := by kernel_rfl
theorem lf46_3 : (firstRegion lb46_3).bind (ltOf lt46) = some L46_3 := by kernel_rfl
theorem lk46_3 : (Code.loops lb46_3).length = 0 := by kernel_rfl
def rt46_4 : VT :=
  (.ite (.bin .lt (.var 3) (.var 2))
   (.need (.t true) (.pre 76 (.cons (.var 4) (.cons (.var 5) (.cons (.var 6) (.cons (.var 7) (.cons (.var 8) (.cons (.var 2) (.cons (.var 3) .nil))))))))
   (.lt (.app 76 (.cons (.var 4) (.cons (.var 5) (.cons (.var 6) (.cons (.var 7) (.cons (.var 8) (.cons (.var 2) (.cons (.var 3) .nil))))))) 0) 1
   (.need (.un .not (.var 9)) (.pre 76 (.cons (.var 4) (.cons (.var 5) (.cons (.var 6) (.cons (.var 7) (.cons (.var 8) (.cons (.var 3) (.cons (.var 2) .nil))))))))
   (.lt (.app 76 (.cons (.var 4) (.cons (.var 5) (.cons (.var 6) (.cons (.var 7) (.cons (.var 8) (.cons (.var 3) (.cons (.var 2) .nil))))))) 0) 1
   (.need (.ite (.un .not (.var 9)) (.un .not (.var 10)) (.t false)) (.c (.bin .le (.n 0) (.var 2)))
   (.need (.ite (.un .not (.var 9)) (.un .not (.var 10)) (.t false)) (.c (.bin .lt (.var 2) (.un .len (.var 0))))
   (.need (.ite (.un .not (.var 9)) (.un .not (.var 10)) (.t false)) (.c (.bin .le (.n 0) (.var 3)))
   (.need (.ite (.un .not (.var 9)) (.un .not (.var 10)) (.t false)) (.c (.bin .lt (.var 3) (.un .len (.var 0))))
   (.need (.ite (.un .not (.var 9)) (.un .not (.var 10)) (.t false)) (.pre 63 (.cons (.sel 0 (.var 0) (.var 2)) (.cons (.sel 1 (.var 0) (.var 2)) (.cons (.sel 2 (.var 0) (.var 2)) (.cons (.sel 3 (.var 0) (.var 2)) (.cons (.sel 0 (.var 0) (.var 3)) (.cons (.sel 1 (.var 0) (.var 3)) (.cons (.sel 2 (.var 0) (.var 3)) (.cons (.sel 3 (.var 0) (.var 3)) .nil)))))))))
   (.lt (.app 63 (.cons (.sel 0 (.var 0) (.var 2)) (.cons (.sel 1 (.var 0) (.var 2)) (.cons (.sel 2 (.var 0) (.var 2)) (.cons (.sel 3 (.var 0) (.var 2)) (.cons (.sel 0 (.var 0) (.var 3)) (.cons (.sel 1 (.var 0) (.var 3)) (.cons (.sel 2 (.var 0) (.var 3)) (.cons (.sel 3 (.var 0) (.var 3)) .nil)))))))) 0) 1
   (.ite (.ite (.ite (.un .not (.var 9)) (.un .not (.var 10)) (.t false)) (.var 11) (.t false))
    (.ret (.cons (.n 0) (.cons (.t true) (.cons (.var 3) .nil))))
    (.ret (.cons (.n (-1)) (.cons (.var 1) (.cons (.bin (.add .i64) (.var 3) (.n 1)) .nil)))))))))))))))
   (.ret (.cons (.n 1) (.cons (.var 1) (.cons (.var 3) .nil)))))
theorem le46_4 : (loopVT Try.prog (sgOf sg46) (ltOf lt46) L46_4 lb46_4).slim L46_4.nv [] = rt46_4 := by kernel_rfl
theorem lf46_4 : (firstRegion lb46_4).bind (ltOf lt46) = some L46_4 := by kernel_rfl
theorem lk46_4 : (Code.loops lb46_4).length = 0 := by kernel_rfl
def vt46 : VT :=
  (.need (.t true) (.pre 14601 (.cons (.var 5) (.cons (.t false) (.cons (.n 0) .nil))))
  (.lt (.app 14601 (.cons (.var 5) (.cons (.t false) (.cons (.n 0) .nil))) 0) 3
  (.ite (.bin .eq (.var 7) (.n 0))
   (.ret (.cons (.var 8) .nil))
   (.need (.t true) (.pre 14604 (.cons (.var 5) (.cons (.var 6) (.cons (.var 8) (.cons (.n 0) (.cons (.var 0) (.cons (.var 1) (.cons (.var 2) (.cons (.var 3) (.cons (.var 4) .nil))))))))))
   (.lt (.app 14604 (.cons (.var 5) (.cons (.var 6) (.cons (.var 8) (.cons (.n 0) (.cons (.var 0) (.cons (.var 1) (.cons (.var 2) (.cons (.var 3) (.cons (.var 4) .nil))))))))) 0) 3
   (.ite (.bin .eq (.var 10) (.n 0))
    (.ret (.cons (.var 11) .nil))
    (.ret (.cons (.t false) .nil))))))))
theorem e46 : (fnVT Try.prog (sgOf sg46) (ltOf lt46) S46 Try.f46 c46).slim (S46.ps.map fun p => p.2.length).sum [] = vt46 := by kernel_rfl
def S16 : Sig := ⟨[(true, [.str, .bool, (.sl 38 [.str, .str, i6, i6, i6, (.sl 53 [.str, i6])]), (.sl 55 [i6, i6, i6, i6, .str, i6, i6]), (.sl 50 [.str, i6])]), (true, [i6, i6, i6, i6, i6]), (false, [(.sl 40 [i6, i6, i6, i6])]), (false, [(.sl 40 [i6, i6, i6, i6])])], [(false, [i6])], [], none⟩
noncomputable def c16 : Code := Try.f16.body.getD .skip
theorem b16 : Try.f16.body = some c16 := body_some (by kernel_rfl)
theorem n16 : (Try.f16.name == "runtime.NumGoroutine") = false := by kernel_rfl
def sg16 : List (FuncId × Sig) := [(42, S42), (43, S43), (44, S44), (45, S45), (46, S46)]
def L16_0 : LoopSig := ⟨11600, [],
   ⟨[.any, .any, (.c (.x (.sl 40 [i6, i6, i6, i6]) (.var 0))), .any, (.c (.ptr 0 0)), .any, .any, .any, (.c (.x i6 (.var 1))), .any, (.c (.x i6 (.var 2))), .any, .any, .any, .any, .any, .any, .any, .any, .any, .any, .any, .any, .any, .any, .any, .any, .any, .any, .any, .any, .any, .any, .any, .any, .any, .any, .any, .any, .any, .any, .any, .any, .any, .any, .any, .any, .any, .any, .any, .any, .any, .any, .any, .any, .any, .any, .any, .any, .any, .any, .any, .any, .any, .any, .any, .any, .any, .any, .any, .any, .any, .any, .any, .any, .any, .any, .any, .any, .any, .any, .any, .any, .any, .any, .any, .any, .any, .any, .any, .any, .any, .any, .any, .any, .any, .any, .any, .any, .any, .any, .any, .any, .any, .any, .any, .any, .any, .any, .any, .any, .any, .any, .any, .any, .any, .any, .any, .any, .any, .any, .any, .any, .any, .any],
    [some ⟨(.t true), (.box 26 [(.x .str (.var 3)), (.x .bool (.var 4)), (.x (.sl 38 [.str, .str, i6, i6, i6, (.sl 53 [.str, i6])]) (.var 5)), (.x (.sl 55 [i6, i6, i6, i6, .str, i6, i6]) (.var 6)), (.x (.sl 50 [.str, i6]) (.var 7))] false)⟩]⟩,
   8, [1, 2], [35, 36, 37, 38, 41, 42, 43, 44, 45, 46, 47, 48, 49, 50, 51, 52, 53, 54, 55, 56, 57, 58, 59, 60, 61, 62, 63, 64, 65, 66, 67, 68, 69, 70, 71, 72, 73, 74, 75, 76, 77, 78, 8, 39, 40, 10], [.ret, (.exit 0)], []⟩
def L16_1 : LoopSig := ⟨11601, [],
   ⟨[.any, .any, (.c (.x (.sl 40 [i6, i6, i6, i6]) (.var 0))), (.c (.x (.sl 40 [i6, i6, i6, i6]) (.var 1))), (.c (.ptr 0 0)), (.c (.ptr 1 0)), .any, .any, (.c (.x i6 (.var 2))), .any, .any, (.c (.x i6 (.var 3))), .any, .any, .any, .any, .any, .any, .any, .any, .any, .any, .any, .any, .any, .any, .any, .any, .any, .any, .any, .any, .any, .any, .any, .any, .any, .any, .any, .any, .any, .any, .any, .any, .any, .any, .any, .any, .any, .any, .any, .any, .any, .any, .any, .any, .any, .any, .any, .any, .any, .any, .any, .any, .any, .any, .any, .any, .any, .any, .any, .any, .any, .any, .any, .any, .any, .any, .any, .any, .any, .any, .any, .any, .any, .any, .any, .any, .any, .any, .any, .any, .any, .any, .any, .any, .any, .any, .any, .any, .any, .any, .any, .any, .any, .any, .any, .any, .any, .any, .any, .any, .any, .any, .any, .any, .any, .any, .any, .any, .any, .any, .any, .any, .any],
    [some ⟨(.t true), (.box 26 [(.x .str (.var 4)), (.x .bool (.var 5)), (.x (.sl 38 [.str, .str, i6, i6, i6, (.sl 53 [.str, i6])]) (.var 6)), (.x (.sl 55 [i6, i6, i6, i6, .str, i6, i6]) (.var 7)), (.x (.sl 50 [.str, i6]) (.var 8))] false)⟩, some ⟨(.t true), (.box 28 [(.x i6 (.var 9)), (.x i6 (.var 10)), (.x i6 (.var 11)), (.x i6 (.var 12)), (.x i6 (.var 13))] false)⟩]⟩,
   14, [2, 3], [79, 80, 81, 82, 85, 86, 87, 88, 89, 90, 91, 92, 93, 94, 95, 96, 97, 98, 99, 8, 83, 84, 11], [.ret, (.exit 2)], []⟩
def L16_2 : LoopSig := ⟨11602, [],
   ⟨[.any, .any, .any, (.c (.x (.sl 40 [i6, i6, i6, i6]) (.var 0))), (.c (.ptr 0 0)), (.c (.ptr 1 0)), .any, .any, (.c (.x i6 (.var 1))), .any, .any, .any, (.c (.x i6 (.var 2))), .any, .any, .any, .any, .any, .any, .any, .any, .any, .any, .any, .any, .any, .any, .any, .any, .any, .any, .any, .any, .any, .any, .any, .any, .any, .any, .any, .any, .any, .any, .any, .any, .any, .any, .any, .any, .any, .any, .any, .any, .any, .any, .any, .any, .any, .any, .any, .any, .any, .any, .any, .any, .any, .any, .any, .any, .any, .any, .any, .any, .any, .any, .any, .any, .any, .any, .any, .any, .any, .any, .any, .any, .any, .any, .any, .any, .any, .any, .any, .any, .any, .any, .any, .any, .any, .any, .any, .any, .any, .any, .any, .any, .any, .any, .any, .any, .any, .any, .any, .any, .any, .any, .any, .any, .any, .any, .any, .any, .any, .any, .any, .any],
    [some ⟨(.t true), (.box 26 [(.x .str (.var 3)), (.x .bool (.var 4)), (.x (.sl 38 [.str, .str, i6, i6, i6, (.sl 53 [.str, i6])]) (.var 5)), (.x (.sl 55 [i6, i6, i6, i6, .str, i6, i6]) (.var 6)), (.x (.sl 50 [.str, i6]) (.var 7))] false)⟩, some ⟨(.t true), (.box 28 [(.x i6 (.var 8)), (.x i6 (.var 9)), (.x i6 (.var 10)), (.x i6 (.var 11)), (.x i6 (.var 12))] false)⟩]⟩,
   13, [1, 2], [100, 101, 102, 103, 106, 107, 108, 109, 110, 111, 112, 113, 114, 115, 116, 117, 118, 119, 120, 8, 104, 105, 12], [.ret, (.exit 4)], []⟩
def lt16 : List (Nat × LoopSig) := [(9, L16_0), (14, L16_1), (19, L16_2)]
theorem k16 : (Code.loops c16).length = 3 := by kernel_rfl
noncomputable def lb16_0 : Code := (Code.loops c16).getD 0 .skip
noncomputable def lb16_1 : Code := (Code.loops c16).getD 1 .skip
noncomputable def lb16_2 : Code := (Code.loops c16).getD 2 .skip
def rt16_0 : VT :=
  (.ite (.bin .lt (.var 2) (.un .len (.var 0)))
   (.need (.t true) (.c (.bin .le (.n 0) (.var 2)))
   (.need (.t true) (.c (.bin .lt (.var 2) (.un .len (.var 5))))
   (.ite (.ite (.un .not (.bin .eq (.bin (.sub .i64) (.sel 2 (.var 0) (.var 2)) (.sel 0 (.var 0) (.var 2))) (.sel 2 (.var 5) (.var 2)))) (.t true) (.un .not (.bin .eq (.bin (.sub .i64) (.sel 3 (.var 0) (.var 2)) (.sel 1 (.var 0) (.var 2))) (.sel 3 (.var 5) (.var 2)))))
    (.ret (.cons (.n 0) (.cons (.n 13) (.cons (.var 2) .nil))))
    (.ret (.cons (.n (-1)) (.cons (.var 1) (.cons (.bin (.add .i64) (.var 2) (.n 1)) .nil)))))))
   (.ret (.cons (.n 1) (.cons (.var 1) (.cons (.var 2) .nil)))))
theorem le16_0 : (loopVT Try.prog (sgOf sg16) (ltOf lt16) L16_0 lb16_0).slim L16_0.nv [] = rt16_0 := by kernel_rfl
theorem lf16_0 : (firstRegion lb16_0).bind (ltOf lt16) = some L16_0 := by kernel_rfl
theorem lk16_0 : (Code.loops lb16_0).length = 0 := by kernel_rfl
def rt16_1 : VT :=
  (.ite (.bin .lt (.var 3) (.un .len (.var 0)))
   (.need (.t true) (.c (.bin .le (.n 0) (.var 3)))
   (.need (.t true) (.c (.bin .lt (.var 3) (.un .len (.var 6))))
   (.need (.t true) (.pre 45 (.cons (.sel 0 (.var 0) (.var 3)) (.cons (.sel 1 (.var 0) (.var 3)) (.cons (.sel 2 (.var 0) (.var 3)) (.cons (.sel 3 (.var 0) (.var 3)) (.cons (.var 1) (.cons (.sel 4 (.var 6) (.var 3)) (.cons (.var 12) .nil))))))))
   (.lt (.app 45 (.cons (.sel 0 (.var 0) (.var 3)) (.cons (.sel 1 (.var 0) (.var 3)) (.cons (.sel 2 (.var 0) (.var 3)) (.cons (.sel 3 (.var 0) (.var 3)) (.cons (.var 1) (.cons (.sel 4 (.var 6) (.var 3)) (.cons (.var 12) .nil))))))) 0) 1
   (.ite (.un .not (.var 14))
    (.ret (.cons (.n 0) (.cons (.n 3) (.cons (.var 3) .nil))))
    (.ret (.cons (.n (-1)) (.cons (.var 2) (.cons (.bin (.add .i64) (.var 3) (.n 1)) .nil)))))))))
   (.ret (.cons (.n 1) (.cons (.var 2) (.cons (.var 3) .nil)))))
theorem le16_1 : (loopVT Try.prog (sgOf sg16) (ltOf lt16) L16_1 lb16_1).slim L16_1.nv [] = rt16_1 := by kernel_rfl
theorem lf16_1 : (firstRegion lb16_1).bind (ltOf lt16) = some L16_1 := by kernel_rfl
theorem lk16_1 : (Code.loops lb16_1).length = 0 := by kernel_rfl
def rt16_2 : VT :=
  (.ite (.bin .lt (.var 2) (.un .len (.var 0)))
   (.need (.t true) (.c (.bin .le (.n 0) (.var 2)))
   (.need (.t true) (.c (.bin .lt (.var 2) (.un .len (.var 7))))
   (.need (.t true) (.pre 45 (.cons (.sel 0 (.var 0) (.var 2)) (.cons (.sel 1 (.var 0) (.var 2)) (.cons (.sel 2 (.var 0) (.var 2)) (.cons (.sel 3 (.var 0) (.var 2)) (.cons (.var 0) (.cons (.sel 1 (.var 7) (.var 2)) (.cons (.var 11) .nil))))))))
   (.lt (.app 45 (.cons (.sel 0 (.var 0) (.var 2)) (.cons (.sel 1 (.var 0) (.var 2)) (.cons (.sel 2 (.var 0) (.var 2)) (.cons (.sel 3 (.var 0) (.var 2)) (.cons (.var 0) (.cons (.sel 1 (.var 7) (.var 2)) (.cons (.var 11) .nil))))))) 0) 1
   (.ite (.un .not (.var 13))
    (.ret (.cons (.n 0) (.cons (.n 3) (.cons (.var 2) .nil))))
    (.ret (.cons (.n (-1)) (.cons (.var 1) (.cons (.bin (.add .i64) (.var 2) (.n 1)) .nil)))))))))
   (.ret (.cons (.n 1) (.cons (.var 1) (.cons (.var 2) .nil)))))
theorem le16_2 : (loopVT Try.prog (sgOf sg16) (ltOf lt16) L16_2 lb16_2).slim L16_2.nv [] = rt16_2 := by kernel_rfl
theorem lf16_2 : (firstRegion lb16_2).bind (ltOf lt16) = some L16_2 := by kernel_rfl
theorem lk16_2 : (Code.loops lb16_2).length = 0 := by kernel_rfl
def vt16 : VT :=
  (.need (.t true) (.pre 42 (.cons (.var 0) (.cons (.var 1) (.cons (.var 2) (.cons (.var 3) (.cons (.var 4) .nil))))))
  (.lt (.app 42 (.cons (.var 0) (.cons (.var 1) (.cons (.var 2) (.cons (.var 3) (.cons (.var 4) .nil))))) 0) 1
  (.ite (.un .not (.bin .eq (.var 12) (.n 0)))
   (.ret (.cons (.var 12) .nil))
   (.need (.t true) (.pre 43 (.cons (.var 5) (.cons (.var 6) (.cons (.var 7) (.cons (.var 8) (.cons (.var 9) .nil))))))
   (.lt (.app 43 (.cons (.var 5) (.cons (.var 6) (.cons (.var 7) (.cons (.var 8) (.cons (.var 9) .nil))))) 0) 1
   (.ite (.un .not (.var 13))
    (.ret (.cons (.n 7) .nil))
    (.need (.t true) (.pre 44 (.cons (.var 10) (.cons (.un .len (.var 2)) .nil)))
    (.lt (.app 44 (.cons (.var 10) (.cons (.un .len (.var 2)) .nil)) 0) 1
    (.need (.var 14) (.pre 44 (.cons (.var 11) (.cons (.un .len (.var 4)) .nil)))
    (.lt (.app 44 (.cons (.var 11) (.cons (.un .len (.var 4)) .nil)) 0) 1
    (.ite (.ite (.un .not (.var 14)) (.t true) (.un .not (.var 15)))
     (.ret (.cons (.n 1) .nil))
     (.need (.t true) (.pre 11600 (.cons (.var 10) (.cons (.n 0) (.cons (.n 0) (.cons (.var 0) (.cons (.var 1) (.cons (.var 2) (.cons (.var 3) (.cons (.var 4) .nil)))))))))
     (.lt (.app 11600 (.cons (.var 10) (.cons (.n 0) (.cons (.n 0) (.cons (.var 0) (.cons (.var 1) (.cons (.var 2) (.cons (.var 3) (.cons (.var 4) .nil)))))))) 0) 3
     (.ite (.bin .eq (.var 16) (.n 0))
      (.ret (.cons (.var 17) .nil))
      (.need (.t true) (.pre 11601 (.cons (.var 10) (.cons (.var 11) (.cons (.var 17) (.cons (.n 0) (.cons (.var 0) (.cons (.var 1) (.cons (.var 2) (.cons (.var 3) (.cons (.var 4) (.cons (.var 5) (.cons (.var 6) (.cons (.var 7) (.cons (.var 8) (.cons (.var 9) .nil)))))))))))))))
      (.lt (.app 11601 (.cons (.var 10) (.cons (.var 11) (.cons (.var 17) (.cons (.n 0) (.cons (.var 0) (.cons (.var 1) (.cons (.var 2) (.cons (.var 3) (.cons (.var 4) (.cons (.var 5) (.cons (.var 6) (.cons (.var 7) (.cons (.var 8) (.cons (.var 9) .nil)))))))))))))) 0) 3
      (.ite (.bin .eq (.var 19) (.n 0))
       (.ret (.cons (.var 20) .nil))
       (.need (.t true) (.pre 11602 (.cons (.var 11) (.cons (.var 20) (.cons (.n 0) (.cons (.var 0) (.cons (.var 1) (.cons (.var 2) (.cons (.var 3) (.cons (.var 4) (.cons (.var 5) (.cons (.var 6) (.cons (.var 7) (.cons (.var 8) (.cons (.var 9) .nil))))))))))))))
       (.lt (.app 11602 (.cons (.var 11) (.cons (.var 20) (.cons (.n 0) (.cons (.var 0) (.cons (.var 1) (.cons (.var 2) (.cons (.var 3) (.cons (.var 4) (.cons (.var 5) (.cons (.var 6) (.cons (.var 7) (.cons (.var 8) (.cons (.var 9) .nil))))))))))))) 0) 3
       (.ite (.bin .eq (.var 22) (.n 0))
        (.ret (.cons (.var 23) .nil))
        (.need (.t true) (.pre 46 (.cons (.var 0) (.cons (.var 1) (.cons (.var 2) (.cons (.var 3) (.cons (.var 4) (.cons (.var 10) (.cons (.var 11) .nil))))))))
        (.lt (.app 46 (.cons (.var 0) (.cons (.var 1) (.cons (.var 2) (.cons (.var 3) (.cons (.var 4) (.cons (.var 10) (.cons (.var 11) .nil))))))) 0) 1
        (.ite (.var 25)
         (.ret (.cons (.n 14) .nil))
         (.ret (.cons (.n 0) .nil)))))))))))))))))))))))))
theorem e16 : (fnVT Try.prog (sgOf sg16) (ltOf lt16) S16 Try.f16 c16).slim (S16.ps.map fun p => p.2.length).sum [] = vt16 := by kernel_rfl
def S6 : Sig := ⟨[(true, [.str, .bool, (.sl 38 [.str, .str, i6, i6, i6, (.sl 53 [.str, i6])]), (.sl 55 [i6, i6, i6, i6, .str, i6, i6]), (.sl 50 [.str, i6])]), (true, [i6, i6, i6, i6, i6]), (true, [(.sl 40 [i6, i6, i6, i6]), (.sl 40 [i6, i6, i6, i6])])], [(false, [.bool])], [], none⟩
noncomputable def c6 : Code := Try.f6.body.getD .skip
theorem b6 : Try.f6.body = some c6 := body_some (by kernel_rfl)
theorem n6 : (Try.f6.name == "runtime.NumGoroutine") = false := by kernel_rfl
def sg6 : List (FuncId × Sig) := [(8, S8), (9, S9), (11, S11), (16, S16)]
def lt6 : List (Nat × LoopSig) := []
theorem k6 : (Code.loops c6).length = 0 := by kernel_rfl
def vt6 : VT :=
  (.need (.t true) (.pre 8 (.cons (.var 0) (.cons (.var 1) (.cons (.var 2) (.cons (.var 3) (.cons (.var 4) (.cons (.n 8) (.cons (.n 6) .nil))))))))
  (.lt (.app 8 (.cons (.var 0) (.cons (.var 1) (.cons (.var 2) (.cons (.var 3) (.cons (.var 4) (.cons (.n 8) (.cons (.n 6) .nil))))))) 0) 1
  (.ite (.ite (.ite (.un .not (.var 12)) (.t true) (.bin .lt (.n 10) (.un .len (.var 10)))) (.t true) (.bin .lt (.n 10) (.un .len (.var 11))))
   (.need (.t true) (.pre 9 .nil)
   (.lt (.app 9 .nil 0) 1
   (.ret (.cons (.var 13) .nil))))
   (.need (.t true) (.pre 11 (.cons (.var 0) (.cons (.var 1) (.cons (.var 2) (.cons (.var 3) (.cons (.var 4) (.cons (.var 5) (.cons (.var 6) (.cons (.var 7) (.cons (.var 8) (.cons (.var 9) (.cons (.var 10) (.cons (.var 11) .nil)))))))))))))
   (.lt (.app 11 (.cons (.var 0) (.cons (.var 1) (.cons (.var 2) (.cons (.var 3) (.cons (.var 4) (.cons (.var 5) (.cons (.var 6) (.cons (.var 7) (.cons (.var 8) (.cons (.var 9) (.cons (.var 10) (.cons (.var 11) .nil)))))))))))) 0) 1
   (.need (.t true) (.pre 16 (.cons (.var 0) (.cons (.var 1) (.cons (.var 2) (.cons (.var 3) (.cons (.var 4) (.cons (.var 5) (.cons (.var 6) (.cons (.var 7) (.cons (.var 8) (.cons (.var 9) (.cons (.var 10) (.cons (.var 11) .nil)))))))))))))
   (.lt (.app 16 (.cons (.var 0) (.cons (.var 1) (.cons (.var 2) (.cons (.var 3) (.cons (.var 4) (.cons (.var 5) (.cons (.var 6) (.cons (.var 7) (.cons (.var 8) (.cons (.var 9) (.cons (.var 10) (.cons (.var 11) .nil)))))))))))) 0) 1
   (.need (.bin .eq (.var 13) (.var 14)) (.pre 9 .nil)
   (.lt (.app 9 .nil 0) 1
   (.ret (.cons (.ite (.bin .eq (.var 13) (.var 14)) (.var 15) (.t false)) .nil)))))))))))
theorem e6 : (fnVT Try.prog (sgOf sg6) (ltOf lt6) S6 Try.f6 c6).slim (S6.ps.map fun p => p.2.length).sum [] = vt6 := by kernel_rfl
end Go.Proofs.Ytindllmeeckfcaa.rv
