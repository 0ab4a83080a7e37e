/-
  The functions of the program as they are run: printed by program.; Chapter 47: the table of closed forms.; Points and boxes: small functions of the program and the reference.; Boxes: overlap, inflate, options, function values of boxes, unions.; Lists of boxes: searches, unions.; Packing: checks, shelves, extents.; Packing: the best of several widths.
-/
import Derived.Test.YtindllmeeckfcaaZCompoundApartJ
namespace Go.Proofs.Ytindllmeeckfcaa.rv
open Go.RV
set_option maxRecDepth 100000
def S27 : Sig := ⟨[(true, [i6, i6, i6, i6])], [(false, [.bool])], [], none⟩
noncomputable def c27 : Code := Try.f27.body.getD .skip
theorem b27 : Try.f27.body = some c27 := body_some (by kernel_rfl)
theorem n27 : (Try.f27.name == "runtime.NumGoroutine") = false := by kernel_rfl
def sg27 : List (FuncId × Sig) := [(17, S17)]
def lt27 : List (Nat × LoopSig) := []
theorem k27 : (Code.loops c27).length = 0 := by kernel_rfl
def vt27 : VT :=
  (.need (.t true) (.pre 17 (.cons (.var 0) (.cons (.var 1) (.cons (.var 2) (.cons (.var 3) .nil)))))
  (.lt (.app 17 (.cons (.var 0) (.cons (.var 1) (.cons (.var 2) (.cons (.var 3) .nil)))) 0) 1
  (.ret (.cons (.un .not (.var 4)) .nil))))
theorem e27 : (fnVT Try.prog (sgOf sg27) (ltOf lt27) S27 Try.f27 c27).slim (S27.ps.map fun p => p.2.length).sum [] = vt27 := by kernel_rfl
def T27 : FuncId → List D → List D := tabOf [(17, fn17)]
def fn27 (ρ : List D) : List D := vt27.val T27 ρ
theorem m27 : Meets Try.prog 27 S27 (fun _ => True) fn27 := meets_easy (sgl := sg27) (Φ := T27) mixed (List.forall_mem_cons.2 ⟨m17, (fun _ h => nomatch h)⟩) Try.func27 b27 n27 k27 e27 (by kernel_rfl)
def S11 : Sig := ⟨[(true, [.str, .bool, (.sl 38 [.str, .str, i6, i6, i6, (.sl 53 [.str, i6])]), (.sl 55 [i6, i6, i6, i6, .str, i6, i6]), (.sl 50 [.str, i6])]), (true, [i6, i6, i6, i6, i6]), (false, [(.sl 40 [i6, i6, i6, i6])]), (false, [(.sl 40 [i6, i6, i6, i6])])], [(false, [i6])], [], none⟩
noncomputable def c11 : Code := Try.f11.body.getD .skip
theorem b11 : Try.f11.body = some c11 := body_some (by kernel_rfl)
theorem n11 : (Try.f11.name == "runtime.NumGoroutine") = false := by kernel_rfl
def sg11 : List (FuncId × Sig) := [(26, S26), (28, S28), (25, S25), (29, S29), (30, S30), (31, S31)]
def L11_0 : LoopSig := ⟨11100, [],
   ⟨[.any, .any, .any, .any, (.c (.ptr 0 0)), .any, .any, .any, (.c (.x i6 (.var 0))), .any, .any, .any, .any, .any, .any, .any, .any, .any, .any, .any, .any, .any, .any, .any, .any, .any, .any, .any, .any, .any, .any, .any, .any, .any, .any, .any, .any, .any, .any, .any, .any, (.c (.x (.sl 40 [i6, i6, i6, i6]) (.var 1))), (.c (.x i6 (.var 2))), (.c (.x i6 (.var 3))), .any, .any, .any, .any, .any, .any, .any, .any, .any, .any, .any, .any, .any, .any, .any, .any, .any, .any, .any, .any, .any, .any, .any, .any, .any, .any, .any, .any, .any, .any, .any, .any, .any, .any, .any],
    [some ⟨(.t true), (.box 26 [(.x .str (.var 4)), (.x .bool (.var 5)), (.x (.sl 38 [.str, .str, i6, i6, i6, (.sl 53 [.str, i6])]) (.var 6)), (.x (.sl 55 [i6, i6, i6, i6, .str, i6, i6]) (.var 7)), (.x (.sl 50 [.str, i6]) (.var 8))] false)⟩]⟩,
   9, [0, 3], [44, 45, 46, 47, 12, 11, 48, 49, 50, 51, 52, 53, 54, 55, 56, 57, 58, 59, 60, 61, 62, 63, 8, 64, 43], [.ret, (.exit 1)], []⟩
def lt11 : List (Nat × LoopSig) := [(13, L11_0)]
theorem k11 : (Code.loops c11).length = 1 := by kernel_rfl
noncomputable def lb11_0 : Code := (Code.loops c11).getD 0 .skip
def rt11_0 : VT :=
  (.ite (.bin .lt (.var 3) (.var 2))
   (.need (.t true) (.c (.bin .le (.n 0) (.var 3)))
   (.need (.t true) (.c (.bin .lt (.var 3) (.un .len (.var 1))))
   (.need (.t true) (.pre 29 (.cons (.sel 0 (.var 1) (.var 3)) (.cons (.sel 1 (.var 1) (.var 3)) (.cons (.sel 2 (.var 1) (.var 3)) (.cons (.sel 3 (.var 1) (.var 3)) .nil)))))
   (.lt (.app 29 (.cons (.sel 0 (.var 1) (.var 3)) (.cons (.sel 1 (.var 1) (.var 3)) (.cons (.sel 2 (.var 1) (.var 3)) (.cons (.sel 3 (.var 1) (.var 3)) .nil)))) 0) 2
   (.need (.t true) (.c (.bin .lt (.var 3) (.un .len (.var 6))))
   (.ite (.un .not (.ite (.bin .eq (.var 9) (.sel 2 (.var 6) (.var 3))) (.bin .eq (.var 10) (.sel 3 (.var 6) (.var 3))) (.t false)))
    (.ret (.cons (.n 0) (.cons (.n 13) (.cons (.var 3) .nil))))
    (.ret (.cons (.n (-1)) (.cons (.var 0) (.cons (.bin (.add .i64) (.var 3) (.n 1)) .nil))))))))))
   (.ret (.cons (.n 1) (.cons (.var 0) (.cons (.var 3) .nil)))))
theorem le11_0 : (loopVT Try.prog (sgOf sg11) (ltOf lt11) L11_0 lb11_0).slim L11_0.nv [] = rt11_0 := by kernel_rfl
theorem lf11_0 : (firstRegion lb11_0).bind (ltOf lt11) = some L11_0 := by kernel_rfl
theorem lk11_0 : (Code.loops lb11_0).length = 0 := by kernel_rfl
def vt11 : VT :=
  (.need (.t true) (.pre 26 (.cons (.var 0) (.cons (.var 1) (.cons (.var 2) (.cons (.var 3) (.cons (.var 4) .nil))))))
  (.lt (.app 26 (.cons (.var 0) (.cons (.var 1) (.cons (.var 2) (.cons (.var 3) (.cons (.var 4) .nil))))) 0) 1
  (.ite (.un .not (.bin .eq (.var 12) (.n 0)))
   (.ret (.cons (.var 12) .nil))
   (.need (.t true) (.pre 28 (.cons (.var 5) (.cons (.var 6) (.cons (.var 7) (.cons (.var 8) (.cons (.var 9) .nil))))))
   (.lt (.app 28 (.cons (.var 5) (.cons (.var 6) (.cons (.var 7) (.cons (.var 8) (.cons (.var 9) .nil))))) 0) 1
   (.ite (.un .not (.var 13))
    (.ret (.cons (.n 7) .nil))
    (.ite (.un .not (.bin .eq (.un .len (.var 10)) (.un .len (.var 2))))
     (.ret (.cons (.n 1) .nil))
     (.ite (.un .not (.bin .eq (.un .len (.var 11)) (.un .len (.var 4))))
      (.ret (.cons (.n 1) .nil))
      (.need (.t true) (.pre 25 (.cons (.var 10) (.cons (.clo 27 [] .nil) .nil)))
      (.lt (.app 25 (.cons (.var 10) (.cons (.clo 27 [] .nil) .nil)) 0) 1
      (.ite (.var 14)
       (.ret (.cons (.n 1) .nil))
       (.need (.t true) (.pre 25 (.cons (.var 11) (.cons (.clo 27 [] .nil) .nil)))
       (.lt (.app 25 (.cons (.var 11) (.cons (.clo 27 [] .nil) .nil)) 0) 1
       (.ite (.var 15)
        (.ret (.cons (.n 1) .nil))
        (.need (.t true) (.pre 11100 (.cons (.n 0) (.cons (.var 10) (.cons (.un .len (.var 10)) (.cons (.n 0) (.cons (.var 0) (.cons (.var 1) (.cons (.var 2) (.cons (.var 3) (.cons (.var 4) .nil))))))))))
        (.lt (.app 11100 (.cons (.n 0) (.cons (.var 10) (.cons (.un .len (.var 10)) (.cons (.n 0) (.cons (.var 0) (.cons (.var 1) (.cons (.var 2) (.cons (.var 3) (.cons (.var 4) .nil))))))))) 0) 3
        (.ite (.bin .eq (.var 16) (.n 0))
         (.ret (.cons (.var 17) .nil))
         (.need (.t true) (.pre 30 (.cons (.var 0) (.cons (.var 1) (.cons (.var 2) (.cons (.var 3) (.cons (.var 4) (.cons (.var 8) (.cons (.var 10) (.cons (.var 11) .nil)))))))))
         (.lt (.app 30 (.cons (.var 0) (.cons (.var 1) (.cons (.var 2) (.cons (.var 3) (.cons (.var 4) (.cons (.var 8) (.cons (.var 10) (.cons (.var 11) .nil)))))))) 0) 1
         (.ite (.un .not (.var 19))
          (.ret (.cons (.n 3) .nil))
          (.need (.t true) (.pre 31 (.cons (.var 0) (.cons (.var 1) (.cons (.var 2) (.cons (.var 3) (.cons (.var 4) (.cons (.var 10) (.cons (.var 11) .nil))))))))
          (.lt (.app 31 (.cons (.var 0) (.cons (.var 1) (.cons (.var 2) (.cons (.var 3) (.cons (.var 4) (.cons (.var 10) (.cons (.var 11) .nil))))))) 0) 1
          (.ite (.un .not (.var 20))
           (.ret (.cons (.n 14) .nil))
           (.ret (.cons (.n 0) .nil)))))))))))))))))))))))))
theorem e11 : (fnVT Try.prog (sgOf sg11) (ltOf lt11) S11 Try.f11 c11).slim (S11.ps.map fun p => p.2.length).sum [] = vt11 := by kernel_rfl
def S9 : Sig := ⟨[], [(false, [.bool])], [], none⟩
noncomputable def c9 : Code := Try.f9.body.getD .skip
theorem b9 : Try.f9.body = some c9 := body_some (by kernel_rfl)
theorem n9 : (Try.f9.name == "runtime.NumGoroutine") = false := by kernel_rfl
def sg9 : List (FuncId × Sig) := [(12, S12), (10, S10), (14, S14), (11, S11)]
def lt9 : List (Nat × LoopSig) := []
theorem k9 : (Code.loops c9).length = 0 := by kernel_rfl
def vt9 : VT :=
  (.need (.t true) (.c (.bin .lt (.n 1) (.un .len (.lcons (.cons (.str ⟨#[97]⟩) (.cons (.str ⟨#[]⟩) (.cons (.n 20000) (.cons (.n 10000) (.cons (.n 0) (.cons .lnil .nil)))))) (.lcons (.cons (.str ⟨#[97]⟩) (.cons (.str ⟨#[]⟩) (.cons (.n 20000) (.cons (.n 10000) (.cons (.n 0) (.cons .lnil .nil)))))) .lnil)))))
  (.need (.t true) (.c (.bin .lt (.n 1) (.un .len (.upd 0 (.lcons (.cons (.str ⟨#[97]⟩) (.cons (.str ⟨#[]⟩) (.cons (.n 20000) (.cons (.n 10000) (.cons (.n 0) (.cons .lnil .nil)))))) (.lcons (.cons (.str ⟨#[97]⟩) (.cons (.str ⟨#[]⟩) (.cons (.n 20000) (.cons (.n 10000) (.cons (.n 0) (.cons .lnil .nil)))))) .lnil)) (.n 1) (.cons (.str ⟨#[98]⟩) .nil)))))
  (.need (.t true) (.pre 12 (.cons (.str ⟨#[103]⟩) (.cons (.t false) (.cons (.upd 4 (.upd 0 (.lcons (.cons (.str ⟨#[97]⟩) (.cons (.str ⟨#[]⟩) (.cons (.n 20000) (.cons (.n 10000) (.cons (.n 0) (.cons .lnil .nil)))))) (.lcons (.cons (.str ⟨#[97]⟩) (.cons (.str ⟨#[]⟩) (.cons (.n 20000) (.cons (.n 10000) (.cons (.n 0) (.cons .lnil .nil)))))) .lnil)) (.n 1) (.cons (.str ⟨#[98]⟩) .nil)) (.n 1) (.cons (.n (-1)) .nil)) (.cons .lnil (.cons (.lcons (.cons (.str ⟨#[99]⟩) (.cons (.n (-1)) .nil)) .lnil) (.cons (.n 0) (.cons (.n 10000) (.cons (.n 20000) (.cons (.n 5000) (.cons (.n 8) (.cons (.lcons (.cons (.n 0) (.cons (.n 0) (.cons (.n 20000) (.cons (.n 10000) .nil)))) (.lcons (.cons (.n 40000) (.cons (.n 0) (.cons (.n 60000) (.cons (.n 10000) .nil)))) .lnil)) .nil))))))))))))
  (.lt (.app 12 (.cons (.str ⟨#[103]⟩) (.cons (.t false) (.cons (.upd 4 (.upd 0 (.lcons (.cons (.str ⟨#[97]⟩) (.cons (.str ⟨#[]⟩) (.cons (.n 20000) (.cons (.n 10000) (.cons (.n 0) (.cons .lnil .nil)))))) (.lcons (.cons (.str ⟨#[97]⟩) (.cons (.str ⟨#[]⟩) (.cons (.n 20000) (.cons (.n 10000) (.cons (.n 0) (.cons .lnil .nil)))))) .lnil)) (.n 1) (.cons (.str ⟨#[98]⟩) .nil)) (.n 1) (.cons (.n (-1)) .nil)) (.cons .lnil (.cons (.lcons (.cons (.str ⟨#[99]⟩) (.cons (.n (-1)) .nil)) .lnil) (.cons (.n 0) (.cons (.n 10000) (.cons (.n 20000) (.cons (.n 5000) (.cons (.n 8) (.cons (.lcons (.cons (.n 0) (.cons (.n 0) (.cons (.n 20000) (.cons (.n 10000) .nil)))) (.lcons (.cons (.n 40000) (.cons (.n 0) (.cons (.n 60000) (.cons (.n 10000) .nil)))) .lnil)) .nil))))))))))) 0) 2
  (.need (.t true) (.pre 10 (.cons (.str ⟨#[103]⟩) (.cons (.t false) (.cons (.upd 4 (.upd 0 (.lcons (.cons (.str ⟨#[97]⟩) (.cons (.str ⟨#[]⟩) (.cons (.n 20000) (.cons (.n 10000) (.cons (.n 0) (.cons .lnil .nil)))))) (.lcons (.cons (.str ⟨#[97]⟩) (.cons (.str ⟨#[]⟩) (.cons (.n 20000) (.cons (.n 10000) (.cons (.n 0) (.cons .lnil .nil)))))) .lnil)) (.n 1) (.cons (.str ⟨#[98]⟩) .nil)) (.n 1) (.cons (.n (-1)) .nil)) (.cons .lnil (.cons (.lcons (.cons (.str ⟨#[99]⟩) (.cons (.n (-1)) .nil)) .lnil) (.cons (.n 0) (.cons (.n 10000) (.cons (.n 20000) (.cons (.n 5000) (.cons (.n 8) (.cons (.lcons (.cons (.n 0) (.cons (.n 0) (.cons (.n 20000) (.cons (.n 10000) .nil)))) (.lcons (.cons (.n 40000) (.cons (.n 0) (.cons (.n 60000) (.cons (.n 10000) .nil)))) .lnil)) .nil))))))))))))
  (.lt (.app 10 (.cons (.str ⟨#[103]⟩) (.cons (.t false) (.cons (.upd 4 (.upd 0 (.lcons (.cons (.str ⟨#[97]⟩) (.cons (.str ⟨#[]⟩) (.cons (.n 20000) (.cons (.n 10000) (.cons (.n 0) (.cons .lnil .nil)))))) (.lcons (.cons (.str ⟨#[97]⟩) (.cons (.str ⟨#[]⟩) (.cons (.n 20000) (.cons (.n 10000) (.cons (.n 0) (.cons .lnil .nil)))))) .lnil)) (.n 1) (.cons (.str ⟨#[98]⟩) .nil)) (.n 1) (.cons (.n (-1)) .nil)) (.cons .lnil (.cons (.lcons (.cons (.str ⟨#[99]⟩) (.cons (.n (-1)) .nil)) .lnil) (.cons (.n 0) (.cons (.n 10000) (.cons (.n 20000) (.cons (.n 5000) (.cons (.n 8) (.cons (.lcons (.cons (.n 0) (.cons (.n 0) (.cons (.n 20000) (.cons (.n 10000) .nil)))) (.lcons (.cons (.n 40000) (.cons (.n 0) (.cons (.n 60000) (.cons (.n 10000) .nil)))) .lnil)) .nil))))))))))) 0) 3
  (.need (.t true) (.pre 14 (.cons (.var 0) (.cons (.lcons (.cons (.n 0) (.cons (.n 0) (.cons (.n 30000) (.cons (.n 20000) .nil)))) .lnil) .nil)))
  (.lt (.app 14 (.cons (.var 0) (.cons (.lcons (.cons (.n 0) (.cons (.n 0) (.cons (.n 30000) (.cons (.n 20000) .nil)))) .lnil) .nil)) 0) 1
  (.need (.ite (.ite (.ite (.ite (.var 5) (.bin .eq (.var 1) (.n 0)) (.t false)) (.bin .eq (.var 4) (.n 0)) (.t false)) (.bin .eq (.un .len (.var 2)) (.n 2)) (.t false)) (.bin .eq (.un .len (.var 3)) (.n 1)) (.t false)) (.pre 11 (.cons (.str ⟨#[103]⟩) (.cons (.t false) (.cons (.upd 4 (.upd 0 (.lcons (.cons (.str ⟨#[97]⟩) (.cons (.str ⟨#[]⟩) (.cons (.n 20000) (.cons (.n 10000) (.cons (.n 0) (.cons .lnil .nil)))))) (.lcons (.cons (.str ⟨#[97]⟩) (.cons (.str ⟨#[]⟩) (.cons (.n 20000) (.cons (.n 10000) (.cons (.n 0) (.cons .lnil .nil)))))) .lnil)) (.n 1) (.cons (.str ⟨#[98]⟩) .nil)) (.n 1) (.cons (.n (-1)) .nil)) (.cons .lnil (.cons (.lcons (.cons (.str ⟨#[99]⟩) (.cons (.n (-1)) .nil)) .lnil) (.cons (.n 0) (.cons (.n 10000) (.cons (.n 20000) (.cons (.n 5000) (.cons (.n 8) (.cons (.var 2) (.cons (.var 3) .nil)))))))))))))
  (.lt (.app 11 (.cons (.str ⟨#[103]⟩) (.cons (.t false) (.cons (.upd 4 (.upd 0 (.lcons (.cons (.str ⟨#[97]⟩) (.cons (.str ⟨#[]⟩) (.cons (.n 20000) (.cons (.n 10000) (.cons (.n 0) (.cons .lnil .nil)))))) (.lcons (.cons (.str ⟨#[97]⟩) (.cons (.str ⟨#[]⟩) (.cons (.n 20000) (.cons (.n 10000) (.cons (.n 0) (.cons .lnil .nil)))))) .lnil)) (.n 1) (.cons (.str ⟨#[98]⟩) .nil)) (.n 1) (.cons (.n (-1)) .nil)) (.cons .lnil (.cons (.lcons (.cons (.str ⟨#[99]⟩) (.cons (.n (-1)) .nil)) .lnil) (.cons (.n 0) (.cons (.n 10000) (.cons (.n 20000) (.cons (.n 5000) (.cons (.n 8) (.cons (.var 2) (.cons (.var 3) .nil)))))))))))) 0) 1
  (.need (.ite (.ite (.ite (.ite (.ite (.var 5) (.bin .eq (.var 1) (.n 0)) (.t false)) (.bin .eq (.var 4) (.n 0)) (.t false)) (.bin .eq (.un .len (.var 2)) (.n 2)) (.t false)) (.bin .eq (.un .len (.var 3)) (.n 1)) (.t false)) (.bin .eq (.var 6) (.n 0)) (.t false)) (.c (.bin .lt (.n 0) (.un .len (.var 2))))
  (.need (.ite (.ite (.ite (.ite (.ite (.var 5) (.bin .eq (.var 1) (.n 0)) (.t false)) (.bin .eq (.var 4) (.n 0)) (.t false)) (.bin .eq (.un .len (.var 2)) (.n 2)) (.t false)) (.bin .eq (.un .len (.var 3)) (.n 1)) (.t false)) (.bin .eq (.var 6) (.n 0)) (.t false)) (.pre 11 (.cons (.str ⟨#[103]⟩) (.cons (.t false) (.cons (.upd 4 (.upd 0 (.lcons (.cons (.str ⟨#[97]⟩) (.cons (.str ⟨#[]⟩) (.cons (.n 20000) (.cons (.n 10000) (.cons (.n 0) (.cons .lnil .nil)))))) (.lcons (.cons (.str ⟨#[97]⟩) (.cons (.str ⟨#[]⟩) (.cons (.n 20000) (.cons (.n 10000) (.cons (.n 0) (.cons .lnil .nil)))))) .lnil)) (.n 1) (.cons (.str ⟨#[98]⟩) .nil)) (.n 1) (.cons (.n (-1)) .nil)) (.cons .lnil (.cons (.lcons (.cons (.str ⟨#[99]⟩) (.cons (.n (-1)) .nil)) .lnil) (.cons (.n 0) (.cons (.n 10000) (.cons (.n 20000) (.cons (.n 5000) (.cons (.n 8) (.cons (.lcons (.cons (.sel 0 (.var 2) (.n 0)) (.cons (.sel 1 (.var 2) (.n 0)) (.cons (.sel 2 (.var 2) (.n 0)) (.cons (.sel 3 (.var 2) (.n 0)) .nil)))) (.lcons (.cons (.sel 0 (.var 2) (.n 0)) (.cons (.sel 1 (.var 2) (.n 0)) (.cons (.sel 2 (.var 2) (.n 0)) (.cons (.sel 3 (.var 2) (.n 0)) .nil)))) .lnil)) (.cons (.var 3) .nil)))))))))))))
  (.lt (.app 11 (.cons (.str ⟨#[103]⟩) (.cons (.t false) (.cons (.upd 4 (.upd 0 (.lcons (.cons (.str ⟨#[97]⟩) (.cons (.str ⟨#[]⟩) (.cons (.n 20000) (.cons (.n 10000) (.cons (.n 0) (.cons .lnil .nil)))))) (.lcons (.cons (.str ⟨#[97]⟩) (.cons (.str ⟨#[]⟩) (.cons (.n 20000) (.cons (.n 10000) (.cons (.n 0) (.cons .lnil .nil)))))) .lnil)) (.n 1) (.cons (.str ⟨#[98]⟩) .nil)) (.n 1) (.cons (.n (-1)) .nil)) (.cons .lnil (.cons (.lcons (.cons (.str ⟨#[99]⟩) (.cons (.n (-1)) .nil)) .lnil) (.cons (.n 0) (.cons (.n 10000) (.cons (.n 20000) (.cons (.n 5000) (.cons (.n 8) (.cons (.lcons (.cons (.sel 0 (.var 2) (.n 0)) (.cons (.sel 1 (.var 2) (.n 0)) (.cons (.sel 2 (.var 2) (.n 0)) (.cons (.sel 3 (.var 2) (.n 0)) .nil)))) (.lcons (.cons (.sel 0 (.var 2) (.n 0)) (.cons (.sel 1 (.var 2) (.n 0)) (.cons (.sel 2 (.var 2) (.n 0)) (.cons (.sel 3 (.var 2) (.n 0)) .nil)))) .lnil)) (.cons (.var 3) .nil)))))))))))) 0) 1
  (.ret (.cons (.ite (.ite (.ite (.ite (.ite (.ite (.var 5) (.bin .eq (.var 1) (.n 0)) (.t false)) (.bin .eq (.var 4) (.n 0)) (.t false)) (.bin .eq (.un .len (.var 2)) (.n 2)) (.t false)) (.bin .eq (.un .len (.var 3)) (.n 1)) (.t false)) (.bin .eq (.var 6) (.n 0)) (.t false)) (.bin .eq (.var 7) (.n 14)) (.t false)) .nil)))))))))))))))
theorem e9 : (fnVT Try.prog (sgOf sg9) (ltOf lt9) S9 Try.f9 c9).slim (S9.ps.map fun p => p.2.length).sum [] = vt9 := by kernel_rfl
def S3 : Sig := ⟨[(true, [.str, .bool, (.sl 38 [.str, .str, i6, i6, i6, (.sl 53 [.str, i6])]), (.sl 55 [i6, i6, i6, i6, .str, i6, i6]), (.sl 50 [.str, i6])]), (true, [i6, i6, i6, i6, i6]), (false, [(.sl 40 [i6, i6, i6, i6])])], [(false, [.bool])], [], none⟩
noncomputable def c3 : Code := Try.f3.body.getD .skip
theorem b3 : Try.f3.body = some c3 := body_some (by kernel_rfl)
theorem n3 : (Try.f3.name == "runtime.NumGoroutine") = false := by kernel_rfl
def sg3 : List (FuncId × Sig) := [(8, S8), (9, S9), (10, S10), (11, S11)]
def L3_0 : LoopSig := ⟨10301, [],
   ⟨[.any, .any, (.c (.x (.sl 40 [i6, i6, i6, i6]) (.var 0))), (.c (.ptr 0 0)), .any, .any, (.c (.x .bool (.var 1))), (.c (.x (.sl 40 [i6, i6, i6, i6]) (.var 2))), .any, .any, (.c (.x i6 (.var 3))), .any, .any, .any, .any, .any, .any, .any, .any, .any, .any, .any, .any, .any, .any, .any, .any, .any, .any, .any, .any, .any, .any, .any, .any, .any, .any, .any, .any, .any, .any, .any, .any, .any, .any, .any, .any, .any, .any, .any, .any, .any, .any, .any, .any, .any, .any, .any, .any, .any, .any, .any, .any, .any, .any, .any, .any, .any, .any, .any, .any, .any, .any, .any, .any, .any, .any, .any, .any, .any, .any, .any, .any, .any, .any, .any, .any, .any, .any, .any, .any, .any, .any, .any, .any, .any, .any, .any, .any, .any, .any, .any, .any, .any, .any, .any, .any, .any, .any, .any, .any, .any, .any, .any, .any, .any, .any, .any, .any, .any, .any, .any, .any, .any, .any, .any, .any, .any, .any, .any],
    [some ⟨(.t true), (.box 26 [(.x .str (.var 4)), (.x .bool (.var 5)), (.x (.sl 38 [.str, .str, i6, i6, i6, (.sl 53 [.str, i6])]) (.var 6)), (.x (.sl 55 [i6, i6, i6, i6, .str, i6, i6]) (.var 7)), (.x (.sl 50 [.str, i6]) (.var 8))] false)⟩]⟩,
   9, [1, 3], [55, 56, 57, 58, 11, 61, 62, 63, 66, 67, 68, 69, 70, 71, 72, 73, 74, 75, 76, 77, 78, 79, 80, 81, 82, 83, 84, 85, 86, 87, 88, 89, 90, 91, 92, 93, 94, 95, 96, 97, 98, 99, 100, 101, 102, 103, 104, 105, 106, 107, 108, 109, 110, 111, 112, 113, 114, 115, 116, 117, 118, 119, 120, 121, 122, 123, 124, 125, 126, 127, 128, 6, 64, 65, 59, 60, 10], [.ret, (.exit 0)], []⟩
def L3_1 : LoopSig := ⟨10300, [],
   ⟨[.any, .any, (.c (.x (.sl 40 [i6, i6, i6, i6]) (.var 0))), (.c (.ptr 0 0)), .any, .any, (.c (.x .bool (.var 1))), (.c (.x (.sl 40 [i6, i6, i6, i6]) (.var 2))), .any, .any, (.c (.x i6 (.var 3))), (.c (.x i6 (.var 4))), .any, .any, .any, .any, .any, .any, .any, .any, .any, .any, .any, .any, .any, .any, .any, .any, .any, .any, .any, .any, .any, .any, .any, .any, .any, .any, .any, .any, .any, .any, .any, .any, .any, .any, .any, .any, .any, .any, .any, .any, .any, .any, .any, .any, .any, .any, .any, .any, .any, .any, .any, .any, .any, .any, .any, .any, .any, .any, .any, .any, .any, .any, .any, .any, .any, .any, .any, .any, .any, .any, .any, .any, .any, .any, .any, .any, .any, .any, .any, .any, .any, .any, .any, .any, .any, .any, .any, .any, .any, .any, .any, .any, .any, .any, .any, .any, .any, .any, .any, .any, .any, .any, .any, .any, .any, .any, .any, .any, .any, .any, .any, .any, .any, .any, .any, .any, .any, .any],
    [some ⟨(.t true), (.box 26 [(.x .str (.var 5)), (.x .bool (.var 6)), (.x (.sl 38 [.str, .str, i6, i6, i6, (.sl 53 [.str, i6])]) (.var 7)), (.x (.sl 55 [i6, i6, i6, i6, .str, i6, i6]) (.var 8)), (.x (.sl 50 [.str, i6]) (.var 9))] false)⟩]⟩,
   10, [1, 4], [61, 62, 63, 66, 67, 68, 69, 70, 71, 72, 73, 74, 75, 76, 77, 78, 79, 80, 81, 82, 83, 84, 85, 86, 87, 88, 89, 90, 91, 92, 93, 94, 95, 96, 97, 98, 99, 100, 101, 102, 103, 104, 105, 106, 107, 108, 109, 110, 111, 112, 113, 114, 115, 116, 117, 118, 119, 120, 121, 122, 123, 124, 125, 126, 127, 128, 6, 64, 65, 11], [.ret, (.exit 2)], []⟩
def lt3 : List (Nat × LoopSig) := [(9, L3_0), (12, L3_1)]
theorem k3 : (Code.loops c3).length = 2 := by kernel_rfl
def vt3 : VT :=
  (.need (.t true) (.pre 8 (.cons (.var 0) (.cons (.var 1) (.cons (.var 2) (.cons (.var 3) (.cons (.var 4) (.cons (.n 8) (.cons (.n 6) .nil))))))))
  (.lt (.app 8 (.cons (.var 0) (.cons (.var 1) (.cons (.var 2) (.cons (.var 3) (.cons (.var 4) (.cons (.n 8) (.cons (.n 6) .nil))))))) 0) 1
  (.ite (.ite (.un .not (.var 11)) (.t true) (.bin .lt (.n 10) (.un .len (.var 10))))
   (.need (.t true) (.pre 9 .nil)
   (.lt (.app 9 .nil 0) 1
   (.ret (.cons (.var 12) .nil))))
   (.need (.t true) (.pre 10 (.cons (.var 0) (.cons (.var 1) (.cons (.var 2) (.cons (.var 3) (.cons (.var 4) (.cons (.var 5) (.cons (.var 6) (.cons (.var 7) (.cons (.var 8) (.cons (.var 9) (.cons (.var 10) .nil))))))))))))
   (.lt (.app 10 (.cons (.var 0) (.cons (.var 1) (.cons (.var 2) (.cons (.var 3) (.cons (.var 4) (.cons (.var 5) (.cons (.var 6) (.cons (.var 7) (.cons (.var 8) (.cons (.var 9) (.cons (.var 10) .nil))))))))))) 0) 3
   (.ite (.un .not (.bin .eq (.var 14) (.n 0)))
    (.need (.ite (.bin .eq (.un .len (.var 12)) (.n 0)) (.bin .eq (.un .len (.var 13)) (.n 0)) (.t false)) (.pre 9 .nil)
    (.lt (.app 9 .nil 0) 1
    (.ret (.cons (.ite (.ite (.bin .eq (.un .len (.var 12)) (.n 0)) (.bin .eq (.un .len (.var 13)) (.n 0)) (.t false)) (.var 15) (.t false)) .nil))))
    (.need (.bin .eq (.un .len (.var 12)) (.un .len (.var 10))) (.pre 11 (.cons (.var 0) (.cons (.var 1) (.cons (.var 2) (.cons (.var 3) (.cons (.var 4) (.cons (.var 5) (.cons (.var 6) (.cons (.var 7) (.cons (.var 8) (.cons (.var 9) (.cons (.var 12) (.cons (.var 13) .nil)))))))))))))
    (.lt (.app 11 (.cons (.var 0) (.cons (.var 1) (.cons (.var 2) (.cons (.var 3) (.cons (.var 4) (.cons (.var 5) (.cons (.var 6) (.cons (.var 7) (.cons (.var 8) (.cons (.var 9) (.cons (.var 12) (.cons (.var 13) .nil)))))))))))) 0) 1
    (.ite (.ite (.un .not (.bin .eq (.un .len (.var 12)) (.un .len (.var 10)))) (.t true) (.un .not (.bin .eq (.var 15) (.n 0))))
     (.ret (.cons (.t false) .nil))
     (.need (.t true) (.pre 10301 (.cons (.var 10) (.cons (.t false) (.cons (.var 12) (.cons (.n 0) (.cons (.var 0) (.cons (.var 1) (.cons (.var 2) (.cons (.var 3) (.cons (.var 4) .nil))))))))))
     (.lt (.app 10301 (.cons (.var 10) (.cons (.t false) (.cons (.var 12) (.cons (.n 0) (.cons (.var 0) (.cons (.var 1) (.cons (.var 2) (.cons (.var 3) (.cons (.var 4) .nil))))))))) 0) 3
     (.ite (.bin .eq (.var 16) (.n 0))
      (.ret (.cons (.var 17) .nil))
      (.need (.t true) (.pre 9 .nil)
      (.lt (.app 9 .nil 0) 1
      (.ret (.cons (.var 19) .nil))))))))))))))))
theorem e3 : (fnVT Try.prog (sgOf sg3) (ltOf lt3) S3 Try.f3 c3).slim (S3.ps.map fun p => p.2.length).sum [] = vt3 := by kernel_rfl
def S109 : Sig := ⟨[(false, [(.int .u8)])], [(false, [.bool])], [], none⟩
noncomputable def c109 : Code := Try.f109.body.getD .skip
theorem b109 : Try.f109.body = some c109 := body_some (by kernel_rfl)
theorem n109 : (Try.f109.name == "runtime.NumGoroutine") = false := by kernel_rfl
def sg109 : List (FuncId × Sig) := []
def lt109 : List (Nat × LoopSig) := []
theorem k109 : (Code.loops c109).length = 0 := by kernel_rfl
def vt109 : VT :=
  (.ret (.cons (.ite (.ite (.ite (.bin .le (.n 97) (.var 0)) (.bin .le (.var 0) (.n 122)) (.t false)) (.t true) (.ite (.bin .le (.n 65) (.var 0)) (.bin .le (.var 0) (.n 90)) (.t false))) (.t true) (.bin .eq (.var 0) (.n 95))) .nil))
theorem e109 : (fnVT Try.prog (sgOf sg109) (ltOf lt109) S109 Try.f109 c109).slim (S109.ps.map fun p => p.2.length).sum [] = vt109 := by kernel_rfl
def T109 : FuncId → List D → List D := tabOf []
def fn109 (ρ : List D) : List D := vt109.val T109 ρ
theorem m109 : Meets Try.prog 109 S109 (fun _ => True) fn109 := meets_easy (sgl := sg109) (Φ := T109) mixed ((fun _ h => nomatch h)) Try.func109 b109 n109 k109 e109 (by kernel_rfl)
def S110 : Sig := ⟨[(false, [(.int .u8)])], [(false, [.bool])], [], none⟩
noncomputable def c110 : Code := Try.f110.body.getD .skip
theorem b110 : Try.f110.body = some c110 := body_some (by kernel_rfl)
theorem n110 : (Try.f110.name == "runtime.NumGoroutine") = false := by kernel_rfl
def sg110 : List (FuncId × Sig) := []
def lt110 : List (Nat × LoopSig) := []
theorem k110 : (Code.loops c110).length = 0 := by kernel_rfl
def vt110 : VT :=
  (.ret (.cons (.ite (.bin .le (.n 48) (.var 0)) (.bin .le (.var 0) (.n 57)) (.t false)) .nil))
theorem e110 : (fnVT Try.prog (sgOf sg110) (ltOf lt110) S110 Try.f110 c110).slim (S110.ps.map fun p => p.2.length).sum [] = vt110 := by kernel_rfl
def T110 : FuncId → List D → List D := tabOf []
def fn110 (ρ : List D) : List D := vt110.val T110 ρ
theorem m110 : Meets Try.prog 110 S110 (fun _ => True) fn110 := meets_easy (sgl := sg110) (Φ := T110) mixed ((fun _ h => nomatch h)) Try.func110 b110 n110 k110 e110 (by kernel_rfl)
def S91 : Sig := ⟨[(false, [.str])], [(false, [i6])], [], none⟩
noncomputable def c91 : Code := Try.f91.body.getD .skip
theorem b91 : Try.f91.body = some c91 := body_some (by kernel_rfl)
theorem n91 : (Try.f91.name == "runtime.NumGoroutine") = false := by kernel_rfl
def sg91 : List (FuncId × Sig) := [(109, S109), (110, S110)]
def L91_0 : LoopSig := ⟨19100, [],
   ⟨[(.c (.x .str (.var 0))), .any, .any, (.c (.x i6 (.var 1))), .any, .any, .any, .any, .any, .any, .any, .any, .any, .any, .any, .any, .any, .any, .any, .any, .any, .any, .any, .any, .any, .any, .any],
    []⟩,
   2, [1], [4, 5, 6, 7, 8, 9, 10, 11, 12, 13, 14, 15, 16, 17, 18, 19, 20, 21, 22, 23, 24, 25, 3], [(.exit 0)], []⟩
def lt91 : List (Nat × LoopSig) := [(2, L91_0)]
theorem k91 : (Code.loops c91).length = 1 := by kernel_rfl
noncomputable def lb91_0 : Code := (Code.loops c91).getD 0 .skip
def rt91_0 : VT :=
  (.need (.bin .lt (.var 1) (.un .slen (.var 0))) (.c (.bin .le (.n 0) (.var 1)))
  (.need (.bin .lt (.var 1) (.un .slen (.var 0))) (.c (.bin .lt (.var 1) (.un .slen (.var 0))))
  (.need (.bin .lt (.var 1) (.un .slen (.var 0))) (.pre 109 (.cons (.bin .sidx (.var 0) (.var 1)) .nil))
  (.lt (.app 109 (.cons (.bin .sidx (.var 0) (.var 1)) .nil) 0) 1
  (.need (.ite (.ite (.bin .lt (.var 1) (.un .slen (.var 0))) (.un .not (.var 2)) (.t false)) (.bin .lt (.n 0) (.var 1)) (.t false)) (.c (.bin .le (.n 0) (.var 1)))
  (.need (.ite (.ite (.bin .lt (.var 1) (.un .slen (.var 0))) (.un .not (.var 2)) (.t false)) (.bin .lt (.n 0) (.var 1)) (.t false)) (.c (.bin .lt (.var 1) (.un .slen (.var 0))))
  (.need (.ite (.ite (.bin .lt (.var 1) (.un .slen (.var 0))) (.un .not (.var 2)) (.t false)) (.bin .lt (.n 0) (.var 1)) (.t false)) (.pre 110 (.cons (.bin .sidx (.var 0) (.var 1)) .nil))
  (.lt (.app 110 (.cons (.bin .sidx (.var 0) (.var 1)) .nil) 0) 1
  (.ite (.ite (.bin .lt (.var 1) (.un .slen (.var 0))) (.ite (.var 2) (.t true) (.ite (.bin .lt (.n 0) (.var 1)) (.var 3) (.t false))) (.t false))
   (.ret (.cons (.n (-1)) (.cons (.bin (.add .i64) (.var 1) (.n 1)) .nil)))
   (.ret (.cons (.n 0) (.cons (.var 1) .nil))))))))))))
theorem le91_0 : (loopVT Try.prog (sgOf sg91) (ltOf lt91) L91_0 lb91_0).slim L91_0.nv [] = rt91_0 := by kernel_rfl
theorem lf91_0 : (firstRegion lb91_0).bind (ltOf lt91) = some L91_0 := by kernel_rfl
theorem lk91_0 : (Code.loops lb91_0).length = 0 := by kernel_rfl
def vt91 : VT :=
  (.need (.t true) (.pre 19100 (.cons (.var 0) (.cons (.n 0) .nil)))
  (.lt (.app 19100 (.cons (.var 0) (.cons (.n 0) .nil)) 0) 2
  (.ret (.cons (.var 2) .nil))))
theorem e91 : (fnVT Try.prog (sgOf sg91) (ltOf lt91) S91 Try.f91 c91).slim (S91.ps.map fun p => p.2.length).sum [] = vt91 := by kernel_rfl
def S92 : Sig := ⟨[(false, [.str])], [(false, [.bool])], [], none⟩
noncomputable def c92 : Code := Try.f92.body.getD .skip
theorem b92 : Try.f92.body = some c92 := body_some (by kernel_rfl)
theorem n92 : (Try.f92.name == "runtime.NumGoroutine") = false := by kernel_rfl
def sg92 : List (FuncId × Sig) := []
def lt92 : List (Nat × LoopSig) := []
theorem k92 : (Code.loops c92).length = 0 := by kernel_rfl
def vt92 : VT :=
  (.ite (.bin .seq (.var 0) (.str ⟨#[100, 105, 103, 114, 97, 112, 104]⟩))
   (.ret (.cons (.t true) .nil))
   (.ite (.bin .seq (.var 0) (.str ⟨#[103, 114, 97, 112, 104]⟩))
    (.ret (.cons (.t true) .nil))
    (.ite (.bin .seq (.var 0) (.str ⟨#[110, 111, 100, 101]⟩))
     (.ret (.cons (.t true) .nil))
     (.ite (.bin .seq (.var 0) (.str ⟨#[101, 100, 103, 101]⟩))
      (.ret (.cons (.t true) .nil))
      (.ite (.bin .seq (.var 0) (.str ⟨#[115, 101, 116]⟩))
       (.ret (.cons (.t true) .nil))
       (.ite (.bin .seq (.var 0) (.str ⟨#[99, 108, 117, 115, 116, 101, 114]⟩))
        (.ret (.cons (.t true) .nil))
        (.ret (.cons (.t false) .nil))))))))
theorem e92 : (fnVT Try.prog (sgOf sg92) (ltOf lt92) S92 Try.f92 c92).slim (S92.ps.map fun p => p.2.length).sum [] = vt92 := by kernel_rfl
def T92 : FuncId → List D → List D := tabOf []
def fn92 (ρ : List D) : List D := vt92.val T92 ρ
theorem m92 : Meets Try.prog 92 S92 (fun _ => True) fn92 := meets_easy (sgl := sg92) (Φ := T92) mixed ((fun _ h => nomatch h)) Try.func92 b92 n92 k92 e92 (by kernel_rfl)
def S68 : Sig := ⟨[(false, [.str])], [(false, [.bool])], [], none⟩
noncomputable def c68 : Code := Try.f68.body.getD .skip
theorem b68 : Try.f68.body = some c68 := body_some (by kernel_rfl)
theorem n68 : (Try.f68.name == "runtime.NumGoroutine") = false := by kernel_rfl
def sg68 : List (FuncId × Sig) := [(91, S91), (92, S92)]
def lt68 : List (Nat × LoopSig) := []
theorem k68 : (Code.loops c68).length = 0 := by kernel_rfl
def vt68 : VT :=
  (.need (.un .not (.bin .seq (.var 0) (.str ⟨#[]⟩))) (.pre 91 (.cons (.var 0) .nil))
  (.lt (.app 91 (.cons (.var 0) .nil) 0) 1
  (.need (.ite (.ite (.un .not (.bin .seq (.var 0) (.str ⟨#[]⟩))) (.bin .eq (.var 1) (.un .slen (.var 0))) (.t false)) (.bin .le (.un .slen (.var 0)) (.n 16)) (.t false)) (.pre 92 (.cons (.var 0) .nil))
  (.lt (.app 92 (.cons (.var 0) .nil) 0) 1
  (.ret (.cons (.ite (.ite (.ite (.un .not (.bin .seq (.var 0) (.str ⟨#[]⟩))) (.bin .eq (.var 1) (.un .slen (.var 0))) (.t false)) (.bin .le (.un .slen (.var 0)) (.n 16)) (.t false)) (.un .not (.var 2)) (.t false)) .nil))))))
theorem e68 : (fnVT Try.prog (sgOf sg68) (ltOf lt68) S68 Try.f68 c68).slim (S68.ps.map fun p => p.2.length).sum [] = vt68 := by kernel_rfl
def S93 : Sig := ⟨[(true, [.str, .bool, (.sl 38 [.str, .str, i6, i6, i6, (.sl 53 [.str, i6])]), (.sl 55 [i6, i6, i6, i6, .str, i6, i6]), (.sl 50 [.str, i6])]), (false, [.str])], [(false, [i6])], [], none⟩
noncomputable def c93 : Code := Try.f93.body.getD .skip
theorem b93 : Try.f93.body = some c93 := body_some (by kernel_rfl)
theorem n93 : (Try.f93.name == "runtime.NumGoroutine") = false := by kernel_rfl
def sg93 : List (FuncId × Sig) := []
def L93_0 : LoopSig := ⟨19300, [],
   ⟨[.any, (.c (.x .str (.var 0))), (.c (.ptr 0 0)), .any, (.c (.x i6 (.var 1))), (.c (.x i6 (.var 2))), .any, .any, .any, .any, .any, .any, .any, .any, .any, .any, .any, .any, .any, .any, .any, .any],
    [some ⟨(.t true), (.box 26 [(.x .str (.var 3)), (.x .bool (.var 4)), (.x (.sl 38 [.str, .str, i6, i6, i6, (.sl 53 [.str, i6])]) (.var 5)), (.x (.sl 55 [i6, i6, i6, i6, .str, i6, i6]) (.var 6)), (.x (.sl 50 [.str, i6]) (.var 7))] false)⟩]⟩,
   8, [1, 2], [6, 7, 8, 9, 10, 13, 14, 15, 16, 17, 18, 19, 20, 21, 4, 11, 12, 5], [.ret, (.exit 0)], []⟩
def lt93 : List (Nat × LoopSig) := [(2, L93_0)]
theorem k93 : (Code.loops c93).length = 1 := by kernel_rfl
noncomputable def lb93_0 : Code := (Code.loops c93).getD 0 .skip
def rt93_0 : VT :=
  (.ite (.bin .lt (.var 2) (.un .len (.var 5)))
   (.need (.t true) (.c (.bin .le (.n 0) (.var 2)))
   (.ite (.bin .seq (.sel 0 (.var 5) (.var 2)) (.var 0))
    (.ret (.cons (.n 0) (.cons (.var 2) (.cons (.var 2) .nil))))
    (.ret (.cons (.n (-1)) (.cons (.var 1) (.cons (.bin (.add .i64) (.var 2) (.n 1)) .nil))))))
   (.ret (.cons (.n 1) (.cons (.var 1) (.cons (.var 2) .nil)))))
theorem le93_0 : (loopVT Try.prog (sgOf sg93) (ltOf lt93) L93_0 lb93_0).slim L93_0.nv [] = rt93_0 := by kernel_rfl
theorem lf93_0 : (firstRegion lb93_0).bind (ltOf lt93) = some L93_0 := by kernel_rfl
theorem lk93_0 : (Code.loops lb93_0).length = 0 := by kernel_rfl
def vt93 : VT :=
  (.need (.t true) (.pre 19300 (.cons (.var 5) (.cons (.n 0) (.cons (.n 0) (.cons (.var 0) (.cons (.var 1) (.cons (.var 2) (.cons (.var 3) (.cons (.var 4) .nil)))))))))
  (.lt (.app 19300 (.cons (.var 5) (.cons (.n 0) (.cons (.n 0) (.cons (.var 0) (.cons (.var 1) (.cons (.var 2) (.cons (.var 3) (.cons (.var 4) .nil)))))))) 0) 3
  (.ite (.bin .eq (.var 6) (.n 0))
   (.ret (.cons (.var 7) .nil))
   (.ret (.cons (.n (-1)) .nil)))))
theorem e93 : (fnVT Try.prog (sgOf sg93) (ltOf lt93) S93 Try.f93 c93).slim (S93.ps.map fun p => p.2.length).sum [] = vt93 := by kernel_rfl
def S96 : Sig := ⟨[(true, [.str, .bool, (.sl 38 [.str, .str, i6, i6, i6, (.sl 53 [.str, i6])]), (.sl 55 [i6, i6, i6, i6, .str, i6, i6]), (.sl 50 [.str, i6])]), (false, [i6])], [(false, [i6])], [], none⟩
noncomputable def c96 : Code := Try.f96.body.getD .skip
theorem b96 : Try.f96.body = some c96 := body_some (by kernel_rfl)
theorem n96 : (Try.f96.name == "runtime.NumGoroutine") = false := by kernel_rfl
def sg96 : List (FuncId × Sig) := []
def L96_0 : LoopSig := ⟨19600, [],
   ⟨[.any, (.c (.x i6 (.var 0))), (.c (.ptr 0 0)), .any, .any, (.c (.x i6 (.var 1))), .any, .any, .any, .any, .any, .any, .any, .any, .any, .any, .any],
    [some ⟨(.t true), (.box 26 [(.x .str (.var 2)), (.x .bool (.var 3)), (.x (.sl 38 [.str, .str, i6, i6, i6, (.sl 53 [.str, i6])]) (.var 4)), (.x (.sl 55 [i6, i6, i6, i6, .str, i6, i6]) (.var 5)), (.x (.sl 50 [.str, i6]) (.var 6))] false)⟩]⟩,
   7, [0, 1], [6, 7, 8, 9, 5, 10, 11, 12, 13, 14, 15, 1], [(.exit 0)], []⟩
def lt96 : List (Nat × LoopSig) := [(2, L96_0)]
theorem k96 : (Code.loops c96).length = 1 := by kernel_rfl
noncomputable def lb96_0 : Code := (Code.loops c96).getD 0 .skip
def rt96_0 : VT :=
  (.ite (.bin .le (.n 0) (.var 0))
   (.need (.t true) (.c (.bin .lt (.var 0) (.un .len (.var 6))))
   (.ret (.cons (.n (-1)) (.cons (.sel 1 (.var 6) (.var 0)) (.cons (.bin (.add .i64) (.var 1) (.n 1)) .nil)))))
   (.ret (.cons (.n 0) (.cons (.var 0) (.cons (.var 1) .nil)))))
theorem le96_0 : (loopVT Try.prog (sgOf sg96) (ltOf lt96) L96_0 lb96_0).slim L96_0.nv [] = rt96_0 := by kernel_rfl
theorem lf96_0 : (firstRegion lb96_0).bind (ltOf lt96) = some L96_0 := by kernel_rfl
theorem lk96_0 : (Code.loops lb96_0).length = 0 := by kernel_rfl
def vt96 : VT :=
  (.need (.t true) (.pre 19600 (.cons (.var 5) (.cons (.n 0) (.cons (.var 0) (.cons (.var 1) (.cons (.var 2) (.cons (.var 3) (.cons (.var 4) .nil))))))))
  (.lt (.app 19600 (.cons (.var 5) (.cons (.n 0) (.cons (.var 0) (.cons (.var 1) (.cons (.var 2) (.cons (.var 3) (.cons (.var 4) .nil))))))) 0) 3
  (.ret (.cons (.var 8) .nil))))
theorem e96 : (fnVT Try.prog (sgOf sg96) (ltOf lt96) S96 Try.f96 c96).slim (S96.ps.map fun p => p.2.length).sum [] = vt96 := by kernel_rfl
def S70 : Sig := ⟨[(true, [.str, .bool, (.sl 38 [.str, .str, i6, i6, i6, (.sl 53 [.str, i6])]), (.sl 55 [i6, i6, i6, i6, .str, i6, i6]), (.sl 50 [.str, i6])]), (false, [i6])], [(false, [i6])], [], none⟩
noncomputable def c70 : Code := Try.f70.body.getD .skip
theorem b70 : Try.f70.body = some c70 := body_some (by kernel_rfl)
theorem n70 : (Try.f70.name == "runtime.NumGoroutine") = false := by kernel_rfl
def sg70 : List (FuncId × Sig) := [(68, S68), (93, S93), (96, S96)]
def L70_0 : LoopSig := ⟨17000, [],
   ⟨[.any, (.c (.x i6 (.var 0))), (.c (.ptr 0 0)), .any, (.c (.x i6 (.var 1))), (.c (.ptr 1 0)), (.c (.x i6 (.var 2))), .any, .any, .any, .any, .any, .any, .any, .any, .any, .any, .any, .any, .any, .any, .any, .any, .any, .any, .any, .any, .any, .any, .any, .any, .any, .any, .any, .any, .any, .any, .any, .any, .any, .any, .any, .any, .any, .any, .any, .any, .any],
    [some ⟨(.t true), (.box 26 [(.x .str (.var 3)), (.x .bool (.var 4)), (.x (.sl 38 [.str, .str, i6, i6, i6, (.sl 53 [.str, i6])]) (.var 5)), (.x (.sl 55 [i6, i6, i6, i6, .str, i6, i6]) (.var 6)), (.x (.sl 50 [.str, i6]) (.var 7))] false)⟩, some ⟨(.t true), (.box 50 [(.x .str (.var 8)), (.x i6 (.var 9))] false)⟩]⟩,
   10, [1, 2], [16, 17, 18, 21, 22, 23, 24, 25, 26, 27, 28, 29, 4, 19, 20, 6], [.ret, (.exit 0)], []⟩
def lt70 : List (Nat × LoopSig) := [(5, L70_0)]
theorem k70 : (Code.loops c70).length = 1 := by kernel_rfl
noncomputable def lb70_0 : Code := (Code.loops c70).getD 0 .skip
def rt70_0 : VT :=
  (.ite (.bin .lt (.var 2) (.var 0))
   (.need (.t true) (.c (.bin .le (.n 0) (.var 2)))
   (.need (.t true) (.c (.bin .lt (.var 2) (.un .len (.var 7))))
   (.ite (.bin .seq (.sel 0 (.var 7) (.var 2)) (.var 8))
    (.ret (.cons (.n 0) (.cons (.n 6) (.cons (.var 2) .nil))))
    (.ret (.cons (.n (-1)) (.cons (.var 1) (.cons (.bin (.add .i64) (.var 2) (.n 1)) .nil)))))))
   (.ret (.cons (.n 1) (.cons (.var 1) (.cons (.var 2) .nil)))))
theorem le70_0 : (loopVT Try.prog (sgOf sg70) (ltOf lt70) L70_0 lb70_0).slim L70_0.nv [] = rt70_0 := by kernel_rfl
theorem lf70_0 : (firstRegion lb70_0).bind (ltOf lt70) = some L70_0 := by kernel_rfl
theorem lk70_0 : (Code.loops lb70_0).length = 0 := by kernel_rfl
def vt70 : VT :=
  (.need (.t true) (.c (.bin .le (.n 0) (.var 5)))
  (.need (.t true) (.c (.bin .lt (.var 5) (.un .len (.var 4))))
  (.need (.t true) (.pre 68 (.cons (.sel 0 (.var 4) (.var 5)) .nil))
  (.lt (.app 68 (.cons (.sel 0 (.var 4) (.var 5)) .nil) 0) 1
  (.ite (.un .not (.var 6))
   (.ret (.cons (.n 5) .nil))
   (.need (.t true) (.pre 17000 (.cons (.var 5) (.cons (.n 0) (.cons (.n 0) (.cons (.var 0) (.cons (.var 1) (.cons (.var 2) (.cons (.var 3) (.cons (.var 4) (.cons (.sel 0 (.var 4) (.var 5)) (.cons (.sel 1 (.var 4) (.var 5)) .nil)))))))))))
   (.lt (.app 17000 (.cons (.var 5) (.cons (.n 0) (.cons (.n 0) (.cons (.var 0) (.cons (.var 1) (.cons (.var 2) (.cons (.var 3) (.cons (.var 4) (.cons (.sel 0 (.var 4) (.var 5)) (.cons (.sel 1 (.var 4) (.var 5)) .nil)))))))))) 0) 3
   (.ite (.bin .eq (.var 7) (.n 0))
    (.ret (.cons (.var 8) .nil))
    (.need (.t true) (.pre 93 (.cons (.var 0) (.cons (.var 1) (.cons (.var 2) (.cons (.var 3) (.cons (.var 4) (.cons (.sel 0 (.var 4) (.var 5)) .nil)))))))
    (.lt (.app 93 (.cons (.var 0) (.cons (.var 1) (.cons (.var 2) (.cons (.var 3) (.cons (.var 4) (.cons (.sel 0 (.var 4) (.var 5)) .nil)))))) 0) 1
    (.ite (.bin .le (.n 0) (.var 10))
     (.ret (.cons (.n 6) .nil))
     (.ite (.ite (.bin .lt (.sel 1 (.var 4) (.var 5)) (.n (-1))) (.t true) (.bin .le (.var 5) (.sel 1 (.var 4) (.var 5))))
      (.ret (.cons (.n 3) .nil))
      (.need (.t true) (.pre 96 (.cons (.var 0) (.cons (.var 1) (.cons (.var 2) (.cons (.var 3) (.cons (.var 4) (.cons (.var 5) .nil)))))))
      (.lt (.app 96 (.cons (.var 0) (.cons (.var 1) (.cons (.var 2) (.cons (.var 3) (.cons (.var 4) (.cons (.var 5) .nil)))))) 0) 1
      (.ite (.bin .lt (.n 6) (.var 11))
       (.ret (.cons (.n 2) .nil))
       (.ret (.cons (.n 0) .nil)))))))))))))))))
theorem e70 : (fnVT Try.prog (sgOf sg70) (ltOf lt70) S70 Try.f70 c70).slim (S70.ps.map fun p => p.2.length).sum [] = vt70 := by kernel_rfl
def vt43 : VT :=
  (.ret (.cons (.ite (.ite (.ite (.ite (.ite (.ite (.ite (.ite (.ite (.bin .le (.n 0) (.var 0)) (.bin .le (.var 0) (.n 4)) (.t false)) (.bin .le (.n 0) (.var 1)) (.t false)) (.bin .le (.var 1) (.n 1048576)) (.t false)) (.bin .le (.n 0) (.var 2)) (.t false)) (.bin .le (.var 2) (.n 1048576)) (.t false)) (.bin .le (.n 0) (.var 3)) (.t false)) (.bin .le (.var 3) (.n 1048576)) (.t false)) (.bin .le (.n 0) (.var 4)) (.t false)) (.bin .le (.var 4) (.n 100)) (.t false)) .nil))
def T43 : FuncId → List D → List D := tabOf []
def fn43 (ρ : List D) : List D := vt43.val T43 ρ
def vt67 : VT :=
  (.ret (.cons (.ite (.ite (.ite (.bin .le (.n (-268435456)) (.var 0)) (.bin .le (.var 0) (.n 268435456)) (.t false)) (.bin .le (.n (-268435456)) (.var 1)) (.t false)) (.bin .le (.var 1) (.n 268435456)) (.t false)) .nil))
def T67 : FuncId → List D → List D := tabOf []
def fn67 (ρ : List D) : List D := vt67.val T67 ρ
def vt36 : VT :=
  (.need (.t true) (.pre 67 (.cons (.var 0) (.cons (.var 1) .nil)))
  (.lt (.app 67 (.cons (.var 0) (.cons (.var 1) .nil)) 0) 1
  (.need (.var 4) (.pre 67 (.cons (.var 2) (.cons (.var 3) .nil)))
  (.lt (.app 67 (.cons (.var 2) (.cons (.var 3) .nil)) 0) 1
  (.ret (.cons (.ite (.ite (.ite (.var 4) (.var 5) (.t false)) (.bin .le (.var 0) (.var 2)) (.t false)) (.bin .le (.var 1) (.var 3)) (.t false)) .nil))))))
def T36 : FuncId → List D → List D := tabOf [(67, fn67)]
def fn36 (ρ : List D) : List D := vt36.val T36 ρ
def vt63 : VT :=
  (.need (.t true) (.pre 36 (.cons (.var 0) (.cons (.var 1) (.cons (.var 2) (.cons (.var 3) .nil)))))
  (.lt (.app 36 (.cons (.var 0) (.cons (.var 1) (.cons (.var 2) (.cons (.var 3) .nil)))) 0) 1
  (.need (.var 8) (.pre 36 (.cons (.var 4) (.cons (.var 5) (.cons (.var 6) (.cons (.var 7) .nil)))))
  (.lt (.app 36 (.cons (.var 4) (.cons (.var 5) (.cons (.var 6) (.cons (.var 7) .nil)))) 0) 1
  (.ret (.cons (.ite (.ite (.ite (.var 8) (.var 9) (.t false)) (.bin .lt (.bin .max (.var 0) (.var 4)) (.bin .min (.var 2) (.var 6))) (.t false)) (.bin .lt (.bin .max (.var 1) (.var 5)) (.bin .min (.var 3) (.var 7))) (.t false)) .nil))))))
def T63 : FuncId → List D → List D := tabOf [(36, fn36)]
def fn63 (ρ : List D) : List D := vt63.val T63 ρ
def S13 : Sig := ⟨[(true, [.str, .bool, (.sl 38 [.str, .str, i6, i6, i6, (.sl 53 [.str, i6])]), (.sl 55 [i6, i6, i6, i6, .str, i6, i6]), (.sl 50 [.str, i6])]), (true, [i6, i6, i6, i6, i6]), (false, [(.sl 40 [i6, i6, i6, i6])])], [(false, [(.sl 40 [i6, i6, i6, i6])]), (false, [i6])], [], none⟩
def S4 : Sig := ⟨[(true, [.str, .bool, (.sl 38 [.str, .str, i6, i6, i6, (.sl 53 [.str, i6])]), (.sl 55 [i6, i6, i6, i6, .str, i6, i6]), (.sl 50 [.str, i6])]), (true, [i6, i6, i6, i6, i6]), (false, [(.sl 40 [i6, i6, i6, i6])])], [(false, [.bool])], [], none⟩
noncomputable def c4 : Code := Try.f4.body.getD .skip
theorem b4 : Try.f4.body = some c4 := body_some (by kernel_rfl)
def sg4 : List (FuncId × Sig) := [(8, S8), (9, S9), (12, S12), (13, S13), (14, S14)]
def lt4 : List (Nat × LoopSig) := []
theorem k4 : (Code.loops c4).length = 0 := by kernel_rfl
def vt4 : VT :=
  (.need (.t true) (.pre 8 (.cons (.var 0) (.cons (.var 1) (.cons (.var 2) (.cons (.var 3) (.cons (.var 4) (.cons (.n 8) (.cons (.n 6) .nil))))))))
  (.lt (.app 8 (.cons (.var 0) (.cons (.var 1) (.cons (.var 2) (.cons (.var 3) (.cons (.var 4) (.cons (.n 8) (.cons (.n 6) .nil))))))) 0) 1
  (.ite (.ite (.un .not (.var 11)) (.t true) (.bin .lt (.n 10) (.un .len (.var 10))))
   (.need (.t true) (.pre 9 .nil)
   (.lt (.app 9 .nil 0) 1
   (.ret (.cons (.var 12) .nil))))
   (.need (.t true) (.pre 12 (.cons (.var 0) (.cons (.var 1) (.cons (.var 2) (.cons (.var 3) (.cons (.var 4) (.cons (.var 5) (.cons (.var 6) (.cons (.var 7) (.cons (.var 8) (.cons (.var 9) (.cons (.var 10) .nil))))))))))))
   (.lt (.app 12 (.cons (.var 0) (.cons (.var 1) (.cons (.var 2) (.cons (.var 3) (.cons (.var 4) (.cons (.var 5) (.cons (.var 6) (.cons (.var 7) (.cons (.var 8) (.cons (.var 9) (.cons (.var 10) .nil))))))))))) 0) 2
   (.need (.t true) (.pre 13 (.cons (.var 0) (.cons (.var 1) (.cons (.var 2) (.cons (.var 3) (.cons (.var 4) (.cons (.var 5) (.cons (.var 6) (.cons (.var 7) (.cons (.var 8) (.cons (.var 9) (.cons (.var 10) .nil))))))))))))
   (.lt (.app 13 (.cons (.var 0) (.cons (.var 1) (.cons (.var 2) (.cons (.var 3) (.cons (.var 4) (.cons (.var 5) (.cons (.var 6) (.cons (.var 7) (.cons (.var 8) (.cons (.var 9) (.cons (.var 10) .nil))))))))))) 0) 2
   (.need (.t true) (.pre 14 (.cons (.var 12) (.cons (.var 14) .nil)))
   (.lt (.app 14 (.cons (.var 12) (.cons (.var 14) .nil)) 0) 1
   (.need (.ite (.var 16) (.bin .eq (.var 13) (.var 15)) (.t false)) (.pre 9 .nil)
   (.lt (.app 9 .nil 0) 1
   (.ret (.cons (.ite (.ite (.var 16) (.bin .eq (.var 13) (.var 15)) (.t false)) (.var 17) (.t false)) .nil)))))))))))))
theorem e4 : (fnVT Try.prog (sgOf sg4) (ltOf lt4) S4 Try.f4 c4).slim (S4.ps.map fun p => p.2.length).sum [] = vt4 := by kernel_rfl
def vt40 : VT :=
  (.ret (.cons (.bin (.add .i64) (.var 0) (.var 4)) (.cons (.bin (.add .i64) (.var 1) (.var 5)) (.cons (.bin (.add .i64) (.var 2) (.var 4)) (.cons (.bin (.add .i64) (.var 3) (.var 5)) .nil)))))
def T40 : FuncId → List D → List D := tabOf []
def fn40 (ρ : List D) : List D := vt40.val T40 ρ
def S15 : Sig := ⟨[(true, [.str, .bool, (.sl 38 [.str, .str, i6, i6, i6, (.sl 53 [.str, i6])]), (.sl 55 [i6, i6, i6, i6, .str, i6, i6]), (.sl 50 [.str, i6])]), (true, [i6, i6, i6, i6, i6]), (false, [(.sl 40 [i6, i6, i6, i6])])], [(false, [(.sl 40 [i6, i6, i6, i6])]), (false, [(.sl 40 [i6, i6, i6, i6])]), (false, [i6])], [], none⟩
def S5 : Sig := ⟨[(true, [.str, .bool, (.sl 38 [.str, .str, i6, i6, i6, (.sl 53 [.str, i6])]), (.sl 55 [i6, i6, i6, i6, .str, i6, i6]), (.sl 50 [.str, i6])]), (true, [i6, i6, i6, i6, i6]), (false, [(.sl 40 [i6, i6, i6, i6])])], [(false, [.bool])], [], none⟩
noncomputable def c5 : Code := Try.f5.body.getD .skip
def sg5 : List (FuncId × Sig) := [(8, S8), (9, S9), (10, S10), (15, S15), (14, S14)]
def lt5 : List (Nat × LoopSig) := []
theorem k5 : (Code.loops c5).length = 0 := by kernel_rfl
def vt5 : VT :=
  (.need (.t true) (.pre 8 (.cons (.var 0) (.cons (.var 1) (.cons (.var 2) (.cons (.var 3) (.cons (.var 4) (.cons (.n 8) (.cons (.n 6) .nil))))))))
  (.lt (.app 8 (.cons (.var 0) (.cons (.var 1) (.cons (.var 2) (.cons (.var 3) (.cons (.var 4) (.cons (.n 8) (.cons (.n 6) .nil))))))) 0) 1
  (.ite (.ite (.un .not (.var 11)) (.t true) (.bin .lt (.n 10) (.un .len (.var 10))))
   (.need (.t true) (.pre 9 .nil)
   (.lt (.app 9 .nil 0) 1
   (.ret (.cons (.var 12) .nil))))
   (.need (.t true) (.pre 10 (.cons (.var 0) (.cons (.var 1) (.cons (.var 2) (.cons (.var 3) (.cons (.var 4) (.cons (.var 5) (.cons (.var 6) (.cons (.var 7) (.cons (.var 8) (.cons (.var 9) (.cons (.var 10) .nil))))))))))))
   (.lt (.app 10 (.cons (.var 0) (.cons (.var 1) (.cons (.var 2) (.cons (.var 3) (.cons (.var 4) (.cons (.var 5) (.cons (.var 6) (.cons (.var 7) (.cons (.var 8) (.cons (.var 9) (.cons (.var 10) .nil))))))))))) 0) 3
   (.need (.t true) (.pre 15 (.cons (.var 0) (.cons (.var 1) (.cons (.var 2) (.cons (.var 3) (.cons (.var 4) (.cons (.var 5) (.cons (.var 6) (.cons (.var 7) (.cons (.var 8) (.cons (.var 9) (.cons (.var 10) .nil))))))))))))
   (.lt (.app 15 (.cons (.var 0) (.cons (.var 1) (.cons (.var 2) (.cons (.var 3) (.cons (.var 4) (.cons (.var 5) (.cons (.var 6) (.cons (.var 7) (.cons (.var 8) (.cons (.var 9) (.cons (.var 10) .nil))))))))))) 0) 3
   (.need (.t true) (.pre 14 (.cons (.var 12) (.cons (.var 15) .nil)))
   (.lt (.app 14 (.cons (.var 12) (.cons (.var 15) .nil)) 0) 1
   (.need (.var 18) (.pre 14 (.cons (.var 13) (.cons (.var 16) .nil)))
   (.lt (.app 14 (.cons (.var 13) (.cons (.var 16) .nil)) 0) 1
   (.need (.ite (.ite (.var 18) (.var 19) (.t false)) (.bin .eq (.var 14) (.var 17)) (.t false)) (.pre 9 .nil)
   (.lt (.app 9 .nil 0) 1
   (.ret (.cons (.ite (.ite (.ite (.var 18) (.var 19) (.t false)) (.bin .eq (.var 14) (.var 17)) (.t false)) (.var 20) (.t false)) .nil)))))))))))))))
theorem e5 : (fnVT Try.prog (sgOf sg5) (ltOf lt5) S5 Try.f5 c5).slim (S5.ps.map fun p => p.2.length).sum [] = vt5 := by kernel_rfl
def vt73 : VT :=
  (.need (.t true) (.pre 36 (.cons (.var 0) (.cons (.var 1) (.cons (.var 2) (.cons (.var 3) .nil)))))
  (.lt (.app 36 (.cons (.var 0) (.cons (.var 1) (.cons (.var 2) (.cons (.var 3) .nil)))) 0) 1
  (.ite (.ite (.ite (.un .not (.var 5)) (.t true) (.bin .lt (.var 4) (.n (-536870912)))) (.t true) (.bin .lt (.n 536870912) (.var 4)))
   (.ret (.cons (.n 0) (.cons (.n 0) (.cons (.n 0) (.cons (.n 0) .nil)))))
   (.need (.t true) (.pre 36 (.cons (.bin (.sub .i64) (.var 0) (.var 4)) (.cons (.bin (.sub .i64) (.var 1) (.var 4)) (.cons (.bin (.add .i64) (.var 2) (.var 4)) (.cons (.bin (.add .i64) (.var 3) (.var 4)) .nil)))))
   (.lt (.app 36 (.cons (.bin (.sub .i64) (.var 0) (.var 4)) (.cons (.bin (.sub .i64) (.var 1) (.var 4)) (.cons (.bin (.add .i64) (.var 2) (.var 4)) (.cons (.bin (.add .i64) (.var 3) (.var 4)) .nil)))) 0) 1
   (.ite (.un .not (.var 6))
    (.ret (.cons (.n 0) (.cons (.n 0) (.cons (.n 0) (.cons (.n 0) .nil)))))
    (.ret (.cons (.bin (.sub .i64) (.var 0) (.var 4)) (.cons (.bin (.sub .i64) (.var 1) (.var 4)) (.cons (.bin (.add .i64) (.var 2) (.var 4)) (.cons (.bin (.add .i64) (.var 3) (.var 4)) .nil)))))))))))
def T73 : FuncId → List D → List D := tabOf [(36, fn36)]
def fn73 (ρ : List D) : List D := vt73.val T73 ρ
def vt97 : VT :=
  (.need (.t true) (.pre 36 (.cons (.var 0) (.cons (.var 1) (.cons (.var 2) (.cons (.var 3) .nil)))))
  (.lt (.app 36 (.cons (.var 0) (.cons (.var 1) (.cons (.var 2) (.cons (.var 3) .nil)))) 0) 1
  (.need (.var 6) (.pre 67 (.cons (.var 4) (.cons (.var 5) .nil)))
  (.lt (.app 67 (.cons (.var 4) (.cons (.var 5) .nil)) 0) 1
  (.ret (.cons (.ite (.ite (.ite (.ite (.ite (.var 6) (.var 7) (.t false)) (.bin .le (.var 0) (.var 4)) (.t false)) (.bin .le (.var 4) (.var 2)) (.t false)) (.bin .le (.var 1) (.var 5)) (.t false)) (.bin .le (.var 5) (.var 3)) (.t false)) .nil))))))
def T97 : FuncId → List D → List D := tabOf [(36, fn36), (67, fn67)]
def fn97 (ρ : List D) : List D := vt97.val T97 ρ
def vt72 : VT :=
  (.need (.t true) (.pre 36 (.cons (.var 0) (.cons (.var 1) (.cons (.var 2) (.cons (.var 3) .nil)))))
  (.lt (.app 36 (.cons (.var 0) (.cons (.var 1) (.cons (.var 2) (.cons (.var 3) .nil)))) 0) 1
  (.need (.var 8) (.pre 97 (.cons (.var 4) (.cons (.var 5) (.cons (.var 6) (.cons (.var 7) (.cons (.var 0) (.cons (.var 1) .nil)))))))
  (.lt (.app 97 (.cons (.var 4) (.cons (.var 5) (.cons (.var 6) (.cons (.var 7) (.cons (.var 0) (.cons (.var 1) .nil)))))) 0) 1
  (.need (.ite (.var 8) (.var 9) (.t false)) (.pre 97 (.cons (.var 4) (.cons (.var 5) (.cons (.var 6) (.cons (.var 7) (.cons (.var 2) (.cons (.var 3) .nil)))))))
  (.lt (.app 97 (.cons (.var 4) (.cons (.var 5) (.cons (.var 6) (.cons (.var 7) (.cons (.var 2) (.cons (.var 3) .nil)))))) 0) 1
  (.ret (.cons (.ite (.ite (.var 8) (.var 9) (.t false)) (.var 10) (.t false)) .nil))))))))
def T72 : FuncId → List D → List D := tabOf [(36, fn36), (97, fn97)]
def fn72 (ρ : List D) : List D := vt72.val T72 ρ
noncomputable def c6 : Code := Try.f6.body.getD .skip
theorem k6 : (Code.loops c6).length = 0 := by kernel_rfl
def S7 : Sig := ⟨[(true, [.str, .bool, (.sl 38 [.str, .str, i6, i6, i6, (.sl 53 [.str, i6])]), (.sl 55 [i6, i6, i6, i6, .str, i6, i6]), (.sl 50 [.str, i6])]), (true, [i6, i6, i6, i6, i6]), (false, [(.sl 40 [i6, i6, i6, i6])])], [(false, [.bool])], [], none⟩
noncomputable def c7 : Code := Try.f7.body.getD .skip
theorem b7 : Try.f7.body = some c7 := body_some (by kernel_rfl)
theorem n7 : (Try.f7.name == "runtime.NumGoroutine") = false := by kernel_rfl
def sg7 : List (FuncId × Sig) := [(8, S8), (9, S9), (10, S10), (17, S17), (18, S18)]
def L7_0 : LoopSig := ⟨10702, [],
   ⟨[.any, .any, .any, (.c (.ptr 0 0)), (.c (.ptr 1 0)), .any, (.c (.x .bool (.var 0))), (.c (.x (.sl 40 [i6, i6, i6, i6]) (.var 1))), (.c (.x (.sl 40 [i6, i6, i6, i6]) (.var 2))), .any, (.c (.x i6 (.var 3))), .any, .any, .any, .any, .any, .any, .any, .any, .any, .any, .any, .any, .any, .any, .any, .any, .any, .any, .any, .any, .any, .any, .any, .any, .any, .any, .any, .any, .any, .any, .any, .any, .any, .any, .any, .any, .any, .any, .any, .any, .any, .any, .any, .any, .any, .any, .any, .any, .any, .any, .any, .any, .any, .any, .any, .any, .any, .any, .any, .any, .any, .any, .any, .any, .any, .any, .any, .any, .any, .any, .any, .any, .any, .any, .any, .any, .any, .any, .any, .any, .any, .any, .any, .any, .any, .any, .any, .any, .any, .any, .any, .any, .any, .any, .any, .any, .any, .any, .any, .any, .any, .any, .any, .any, .any, .any, .any, .any, .any, .any, .any, .any, .any, .any, .any, .any, .any, .any, .any, .any, .any, .any, .any, .any, .any, .any],
    [some ⟨(.t true), (.box 26 [(.x .str (.var 4)), (.x .bool (.var 5)), (.x (.sl 38 [.str, .str, i6, i6, i6, (.sl 53 [.str, i6])]) (.var 6)), (.x (.sl 55 [i6, i6, i6, i6, .str, i6, i6]) (.var 7)), (.x (.sl 50 [.str, i6]) (.var 8))] false)⟩, some ⟨(.t true), (.box 28 [(.x i6 (.var 9)), (.x i6 (.var 10)), (.x i6 (.var 11)), (.x i6 (.var 12)), (.x i6 (.var 13))] false)⟩]⟩,
   14, [0, 3], [49, 50, 51, 52, 55, 56, 57, 58, 11, 59, 60, 61, 62, 63, 64, 65, 66, 67, 68, 69, 70, 71, 72, 73, 74, 75, 76, 77, 78, 79, 12, 80, 81, 82, 13, 83, 84, 85, 86, 89, 90, 91, 92, 93, 94, 95, 96, 97, 98, 99, 100, 101, 102, 103, 104, 105, 106, 107, 108, 109, 6, 87, 88, 14, 110, 111, 112, 115, 116, 117, 118, 119, 120, 121, 122, 123, 124, 125, 126, 127, 128, 129, 130, 131, 132, 133, 134, 135, 113, 114, 53, 54, 10], [.ret, (.exit 0)], []⟩
def L7_1 : LoopSig := ⟨10700, [],
   ⟨[.any, .any, .any, (.c (.ptr 0 0)), .any, .any, (.c (.x .bool (.var 0))), (.c (.x (.sl 40 [i6, i6, i6, i6]) (.var 1))), .any, .any, (.c (.x i6 (.var 2))), .any, (.c (.ptr 3 0)), (.c (.x i6 (.var 3))), .any, .any, .any, .any, .any, .any, .any, .any, .any, .any, .any, .any, .any, .any, .any, .any, .any, .any, .any, .any, .any, .any, .any, .any, .any, .any, .any, .any, .any, .any, .any, .any, .any, .any, .any, .any, .any, .any, .any, .any, .any, .any, .any, .any, .any, .any, .any, .any, .any, .any, .any, .any, .any, .any, .any, .any, .any, .any, .any, .any, .any, .any, .any, .any, .any, .any, .any, .any, .any, .any, .any, .any, .any, .any, .any, .any, .any, .any, .any, .any, .any, .any, .any, .any, .any, .any, .any, .any, .any, .any, .any, .any, .any, .any, .any, .any, .any, .any, .any, .any, .any, .any, .any, .any, .any, .any, .any, .any, .any, .any, .any, .any, .any, .any, .any, .any, .any, .any, .any, .any, .any, .any, .any],
    [some ⟨(.t true), (.box 26 [(.x .str (.var 4)), (.x .bool (.var 5)), (.x (.sl 38 [.str, .str, i6, i6, i6, (.sl 53 [.str, i6])]) (.var 6)), (.x (.sl 55 [i6, i6, i6, i6, .str, i6, i6]) (.var 7)), (.x (.sl 50 [.str, i6]) (.var 8))] false)⟩, none, none, some ⟨(.t true), (.box 40 [(.x i6 (.var 9)), (.x i6 (.var 10)), (.x i6 (.var 11)), (.x i6 (.var 12))] false)⟩]⟩,
   13, [0, 3], [83, 84, 85, 86, 89, 90, 91, 92, 93, 94, 95, 96, 97, 98, 99, 100, 101, 102, 103, 104, 105, 106, 107, 108, 109, 6, 87, 88, 13], [.ret, (.exit 2)], []⟩
def L7_2 : LoopSig := ⟨10701, [],
   ⟨[.any, .any, .any, (.c (.ptr 0 0)), .any, .any, (.c (.x .bool (.var 0))), .any, (.c (.x (.sl 40 [i6, i6, i6, i6]) (.var 1))), .any, (.c (.x i6 (.var 2))), .any, (.c (.ptr 3 0)), .any, (.c (.x i6 (.var 3))), .any, .any, .any, .any, .any, .any, .any, .any, .any, .any, .any, .any, .any, .any, .any, .any, .any, .any, .any, .any, .any, .any, .any, .any, .any, .any, .any, .any, .any, .any, .any, .any, .any, .any, .any, .any, .any, .any, .any, .any, .any, .any, .any, .any, .any, .any, .any, .any, .any, .any, .any, .any, .any, .any, .any, .any, .any, .any, .any, .any, .any, .any, .any, .any, .any, .any, .any, .any, .any, .any, .any, .any, .any, .any, .any, .any, .any, .any, .any, .any, .any, .any, .any, .any, .any, .any, .any, .any, .any, .any, .any, .any, .any, .any, .any, .any, .any, .any, .any, .any, .any, .any, .any, .any, .any, .any, .any, .any, .any, .any, .any, .any, .any, .any, .any, .any, .any, .any, .any, .any, .any, .any],
    [some ⟨(.t true), (.box 26 [(.x .str (.var 4)), (.x .bool (.var 5)), (.x (.sl 38 [.str, .str, i6, i6, i6, (.sl 53 [.str, i6])]) (.var 6)), (.x (.sl 55 [i6, i6, i6, i6, .str, i6, i6]) (.var 7)), (.x (.sl 50 [.str, i6]) (.var 8))] false)⟩, none, none, some ⟨(.t true), (.box 40 [(.x i6 (.var 9)), (.x i6 (.var 10)), (.x i6 (.var 11)), (.x i6 (.var 12))] false)⟩]⟩,
   13, [0, 3], [110, 111, 112, 115, 116, 117, 118, 119, 120, 121, 122, 123, 124, 125, 126, 127, 128, 129, 130, 131, 132, 133, 134, 135, 6, 113, 114, 14], [.ret, (.exit 4)], []⟩
def lt7 : List (Nat × LoopSig) := [(9, L7_0), (15, L7_1), (20, L7_2)]
theorem k7 : (Code.loops c7).length = 3 := by kernel_rfl
noncomputable def lb7_0 : Code := (Code.loops c7).getD 0 .skip
noncomputable def lb7_1 : Code := (Code.loops c7).getD 1 .skip
noncomputable def lb7_2 : Code := (Code.loops c7).getD 2 .skip
def rt7_0 : VT :=
  (.ite (.bin .lt (.var 3) (.un .len (.var 2)))
   (.need (.t true) (.c (.bin .le (.n 0) (.var 3)))
   (.need (.t true) (.pre 17 (.cons (.bin (.sub .i64) (.sel 0 (.var 2) (.var 3)) (.var 10)) (.cons (.bin (.sub .i64) (.sel 1 (.var 2) (.var 3)) (.var 10)) (.cons (.bin (.add .i64) (.sel 2 (.var 2) (.var 3)) (.var 10)) (.cons (.bin (.add .i64) (.sel 3 (.var 2) (.var 3)) (.var 10)) .nil)))))
   (.lt (.app 17 (.cons (.bin (.sub .i64) (.sel 0 (.var 2) (.var 3)) (.var 10)) (.cons (.bin (.sub .i64) (.sel 1 (.var 2) (.var 3)) (.var 10)) (.cons (.bin (.add .i64) (.sel 2 (.var 2) (.var 3)) (.var 10)) (.cons (.bin (.add .i64) (.sel 3 (.var 2) (.var 3)) (.var 10)) .nil)))) 0) 1
   (.ite (.un .not (.var 14))
    (.ret (.cons (.n (-1)) (.cons (.var 0) (.cons (.bin (.add .i64) (.var 3) (.n 1)) .nil))))
    (.need (.t true) (.pre 10700 (.cons (.var 0) (.cons (.var 1) (.cons (.var 3) (.cons (.n 0) (.cons (.var 4) (.cons (.var 5) (.cons (.var 6) (.cons (.var 7) (.cons (.var 8) (.cons (.bin (.sub .i64) (.sel 0 (.var 2) (.var 3)) (.var 10)) (.cons (.bin (.sub .i64) (.sel 1 (.var 2) (.var 3)) (.var 10)) (.cons (.bin (.add .i64) (.sel 2 (.var 2) (.var 3)) (.var 10)) (.cons (.bin (.add .i64) (.sel 3 (.var 2) (.var 3)) (.var 10)) .nil))))))))))))))
    (.lt (.app 10700 (.cons (.var 0) (.cons (.var 1) (.cons (.var 3) (.cons (.n 0) (.cons (.var 4) (.cons (.var 5) (.cons (.var 6) (.cons (.var 7) (.cons (.var 8) (.cons (.bin (.sub .i64) (.sel 0 (.var 2) (.var 3)) (.var 10)) (.cons (.bin (.sub .i64) (.sel 1 (.var 2) (.var 3)) (.var 10)) (.cons (.bin (.add .i64) (.sel 2 (.var 2) (.var 3)) (.var 10)) (.cons (.bin (.add .i64) (.sel 3 (.var 2) (.var 3)) (.var 10)) .nil))))))))))))) 0) 3
    (.ite (.bin .eq (.var 15) (.n 0))
     (.ret (.cons (.n 0) (.cons (.var 16) (.cons (.var 3) .nil))))
     (.need (.t true) (.pre 10701 (.cons (.var 16) (.cons (.var 2) (.cons (.var 3) (.cons (.n 0) (.cons (.var 4) (.cons (.var 5) (.cons (.var 6) (.cons (.var 7) (.cons (.var 8) (.cons (.bin (.sub .i64) (.sel 0 (.var 2) (.var 3)) (.var 10)) (.cons (.bin (.sub .i64) (.sel 1 (.var 2) (.var 3)) (.var 10)) (.cons (.bin (.add .i64) (.sel 2 (.var 2) (.var 3)) (.var 10)) (.cons (.bin (.add .i64) (.sel 3 (.var 2) (.var 3)) (.var 10)) .nil))))))))))))))
     (.lt (.app 10701 (.cons (.var 16) (.cons (.var 2) (.cons (.var 3) (.cons (.n 0) (.cons (.var 4) (.cons (.var 5) (.cons (.var 6) (.cons (.var 7) (.cons (.var 8) (.cons (.bin (.sub .i64) (.sel 0 (.var 2) (.var 3)) (.var 10)) (.cons (.bin (.sub .i64) (.sel 1 (.var 2) (.var 3)) (.var 10)) (.cons (.bin (.add .i64) (.sel 2 (.var 2) (.var 3)) (.var 10)) (.cons (.bin (.add .i64) (.sel 3 (.var 2) (.var 3)) (.var 10)) .nil))))))))))))) 0) 3
     (.ite (.bin .eq (.var 18) (.n 0))
      (.ret (.cons (.n 0) (.cons (.var 19) (.cons (.var 3) .nil))))
      (.ret (.cons (.n (-1)) (.cons (.var 19) (.cons (.bin (.add .i64) (.var 3) (.n 1)) .nil))))))))))))))
   (.ret (.cons (.n 1) (.cons (.var 0) (.cons (.var 3) .nil)))))
theorem le7_0 : (loopVT Try.prog (sgOf sg7) (ltOf lt7) L7_0 lb7_0).slim L7_0.nv [] = rt7_0 := by kernel_rfl
theorem lf7_0 : (firstRegion lb7_0).bind (ltOf lt7) = some L7_0 := by kernel_rfl
theorem lk7_0 : (Code.loops lb7_0).length = 2 := by kernel_rfl
theorem li7_0_0 : (Code.loops lb7_0).getD 0 .skip = lb7_1 := by kernel_rfl
theorem li7_0_1 : (Code.loops lb7_0).getD 1 .skip = lb7_2 := by kernel_rfl
def rt7_1 : VT :=
  (.ite (.bin .lt (.var 3) (.un .len (.var 1)))
   (.need (.t true) (.c (.bin .le (.n 0) (.var 3)))
   (.need (.t true) (.c (.bin .lt (.var 3) (.un .len (.var 6))))
   (.need (.t true) (.c (.bin .le (.n 0) (.var 2)))
   (.need (.t true) (.c (.bin .lt (.var 2) (.un .len (.var 8))))
   (.need (.bin .eq (.sel 4 (.var 6) (.var 3)) (.sel 1 (.var 8) (.var 2))) (.pre 18 (.cons (.var 9) (.cons (.var 10) (.cons (.var 11) (.cons (.var 12) (.cons (.sel 0 (.var 1) (.var 3)) (.cons (.sel 1 (.var 1) (.var 3)) (.cons (.sel 2 (.var 1) (.var 3)) (.cons (.sel 3 (.var 1) (.var 3)) .nil)))))))))
   (.lt (.app 18 (.cons (.var 9) (.cons (.var 10) (.cons (.var 11) (.cons (.var 12) (.cons (.sel 0 (.var 1) (.var 3)) (.cons (.sel 1 (.var 1) (.var 3)) (.cons (.sel 2 (.var 1) (.var 3)) (.cons (.sel 3 (.var 1) (.var 3)) .nil)))))))) 0) 1
   (.ite (.ite (.bin .eq (.sel 4 (.var 6) (.var 3)) (.sel 1 (.var 8) (.var 2))) (.var 13) (.t false))
    (.ret (.cons (.n 0) (.cons (.t false) (.cons (.var 3) .nil))))
    (.ret (.cons (.n (-1)) (.cons (.var 0) (.cons (.bin (.add .i64) (.var 3) (.n 1)) .nil)))))))))))
   (.ret (.cons (.n 1) (.cons (.var 0) (.cons (.var 3) .nil)))))
theorem le7_1 : (loopVT Try.prog (sgOf sg7) (ltOf lt7) L7_1 lb7_1).slim L7_1.nv [] = rt7_1 := by kernel_rfl
theorem lf7_1 : (firstRegion lb7_1).bind (ltOf lt7) = some L7_1 := by kernel_rfl
theorem lk7_1 : (Code.loops lb7_1).length = 0 := by kernel_rfl
def rt7_2 : VT :=
  (.ite (.bin .lt (.var 3) (.var 2))
   (.need (.t true) (.c (.bin .le (.n 0) (.var 3)))
   (.need (.t true) (.c (.bin .lt (.var 3) (.un .len (.var 8))))
   (.need (.t true) (.c (.bin .le (.n 0) (.var 2)))
   (.need (.t true) (.c (.bin .lt (.var 2) (.un .len (.var 8))))
   (.need (.bin .eq (.sel 1 (.var 8) (.var 3)) (.sel 1 (.var 8) (.var 2))) (.c (.bin .lt (.var 3) (.un .len (.var 1))))
   (.need (.bin .eq (.sel 1 (.var 8) (.var 3)) (.sel 1 (.var 8) (.var 2))) (.pre 18 (.cons (.var 9) (.cons (.var 10) (.cons (.var 11) (.cons (.var 12) (.cons (.sel 0 (.var 1) (.var 3)) (.cons (.sel 1 (.var 1) (.var 3)) (.cons (.sel 2 (.var 1) (.var 3)) (.cons (.sel 3 (.var 1) (.var 3)) .nil)))))))))
   (.lt (.app 18 (.cons (.var 9) (.cons (.var 10) (.cons (.var 11) (.cons (.var 12) (.cons (.sel 0 (.var 1) (.var 3)) (.cons (.sel 1 (.var 1) (.var 3)) (.cons (.sel 2 (.var 1) (.var 3)) (.cons (.sel 3 (.var 1) (.var 3)) .nil)))))))) 0) 1
   (.ite (.ite (.bin .eq (.sel 1 (.var 8) (.var 3)) (.sel 1 (.var 8) (.var 2))) (.var 13) (.t false))
    (.ret (.cons (.n 0) (.cons (.t false) (.cons (.var 3) .nil))))
    (.ret (.cons (.n (-1)) (.cons (.var 0) (.cons (.bin (.add .i64) (.var 3) (.n 1)) .nil))))))))))))
   (.ret (.cons (.n 1) (.cons (.var 0) (.cons (.var 3) .nil)))))
theorem le7_2 : (loopVT Try.prog (sgOf sg7) (ltOf lt7) L7_2 lb7_2).slim L7_2.nv [] = rt7_2 := by kernel_rfl
theorem lf7_2 : (firstRegion lb7_2).bind (ltOf lt7) = some L7_2 := by kernel_rfl
theorem lk7_2 : (Code.loops lb7_2).length = 0 := by kernel_rfl
def vt7 : VT :=
  (.need (.t true) (.pre 8 (.cons (.var 0) (.cons (.var 1) (.cons (.var 2) (.cons (.var 3) (.cons (.var 4) (.cons (.n 8) (.cons (.n 6) .nil))))))))
  (.lt (.app 8 (.cons (.var 0) (.cons (.var 1) (.cons (.var 2) (.cons (.var 3) (.cons (.var 4) (.cons (.n 8) (.cons (.n 6) .nil))))))) 0) 1
  (.ite (.ite (.un .not (.var 11)) (.t true) (.bin .lt (.n 10) (.un .len (.var 10))))
   (.need (.t true) (.pre 9 .nil)
   (.lt (.app 9 .nil 0) 1
   (.ret (.cons (.var 12) .nil))))
   (.need (.t true) (.pre 10 (.cons (.var 0) (.cons (.var 1) (.cons (.var 2) (.cons (.var 3) (.cons (.var 4) (.cons (.var 5) (.cons (.var 6) (.cons (.var 7) (.cons (.var 8) (.cons (.var 9) (.cons (.var 10) .nil))))))))))))
   (.lt (.app 10 (.cons (.var 0) (.cons (.var 1) (.cons (.var 2) (.cons (.var 3) (.cons (.var 4) (.cons (.var 5) (.cons (.var 6) (.cons (.var 7) (.cons (.var 8) (.cons (.var 9) (.cons (.var 10) .nil))))))))))) 0) 3
   (.ite (.un .not (.bin .eq (.var 14) (.n 0)))
    (.need (.t true) (.pre 9 .nil)
    (.lt (.app 9 .nil 0) 1
    (.ret (.cons (.var 15) .nil))))
    (.ite (.ite (.un .not (.bin .eq (.un .len (.var 13)) (.un .len (.var 4)))) (.t true) (.un .not (.bin .eq (.un .len (.var 12)) (.un .len (.var 2)))))
     (.ret (.cons (.t false) .nil))
     (.need (.t true) (.pre 10702 (.cons (.t false) (.cons (.var 12) (.cons (.var 13) (.cons (.n 0) (.cons (.var 0) (.cons (.var 1) (.cons (.var 2) (.cons (.var 3) (.cons (.var 4) (.cons (.var 5) (.cons (.var 6) (.cons (.var 7) (.cons (.var 8) (.cons (.var 9) .nil)))))))))))))))
     (.lt (.app 10702 (.cons (.t false) (.cons (.var 12) (.cons (.var 13) (.cons (.n 0) (.cons (.var 0) (.cons (.var 1) (.cons (.var 2) (.cons (.var 3) (.cons (.var 4) (.cons (.var 5) (.cons (.var 6) (.cons (.var 7) (.cons (.var 8) (.cons (.var 9) .nil)))))))))))))) 0) 3
     (.ite (.bin .eq (.var 15) (.n 0))
      (.ret (.cons (.var 16) .nil))
      (.need (.t true) (.pre 9 .nil)
      (.lt (.app 9 .nil 0) 1
      (.ret (.cons (.var 18) .nil))))))))))))))
theorem e7 : (fnVT Try.prog (sgOf sg7) (ltOf lt7) S7 Try.f7 c7).slim (S7.ps.map fun p => p.2.length).sum [] = vt7 := by kernel_rfl
end Go.Proofs.Ytindllmeeckfcaa.rv
namespace Go.Proofs.Ytindllmeeckfcaa.rv
set_option maxRecDepth 10000
open Go.RV
def one (_ : List D) : List D := [.b true]
def F : FuncId → List D → List D := tabOf [(102, fn102), (103, fn103), (17900, lpWord), (79, wordD), (80, fn80), (52, nameD), (109, fn109), (110, fn110), (19100, lpWord), (91, wordD), (92, fn92), (68, nameD), (105, fn105), (20039, dyNm), (20400, ixLp dyNm 6), (104, ixFn dyNm 6), (81, findD), (18200, lpLab), (82, labelD), (83, fn83), (107, fn107), (20054, dyNm), (21100, ixLp dyNm 2), (111, ixFn dyNm 2), (106, cfFn dyNm 2), (18400, lpPorts), (84, ports8D), (53, nodeD), (86, fn86), (20051, dyNm), (20800, ixLp dyNm 2), (108, ixFn dyNm 2), (85, cfFn dyNm 2), (18900, lpAr), (89, aroundD), (87, depthD), (54, cluD), (55, edgeD), (12600, lpV0), (12601, lpV1), (12602, lpV2), (26, validD), (19300, lpFind), (93, findD), (19400, lpPlain), (94, plainD), (19501, lpPortsR), (19500, lpPortsI), (95, portsD), (69, nodeD), (19600, lpDep), (96, depthD), (17000, lpCluR), (70, cluD), (71, edgeD), (14200, lpW0), (14201, lpW1), (14202, lpW2), (42, validD), (19000, iiLp), (90, iiFn), (61, ciFn), (16000, lpMem), (60, memD), (19800, lpHas), (98, hasD), (17400, lpMemR), (74, memD), (47, fn47), (67, fn67), (17, fn17), (36, fn36), (88, fn88), (18, fn18), (63, fn63), (58, fn58), (73, fn73), (57, fn57), (72, fn72), (97, fn97), (29, fn29), (21, fn21), (40, fn40), (28, fn28), (43, fn43), (24, fn24), (27, fn27), (59, fn59), (77, fn77), (15000, lpUn), (50, uniD), (13500, lpUr), (35, uniD), (19900, lpCk), (99, chkD), (16400, lpCr), (64, chkD), (20000, lpSh), (100, shD), (16500, lpSr), (65, shelvesD), (20100, lpEx), (101, extD), (16600, lpEr), (66, extD), (17800, lpBe), (78, bestD), (13300, lpBf), (33, bestD), (20041, dyBx), (15100, ixLp dyBx 4), (51, ixFn dyBx 4), (25, cfFn dyBx 4), (12200, lpOw), (22, ownCD), (13800, lpOr), (38, ownRD), (14100, lpKr), (41, kidRD), (13900, lpBr2), (39, blkRD), (13400, lpPr), (34, partRD), (12300, lpBc2), (23, blkCD), (14900, lpPk), (14901, lpPl), (49, packD), (14800, lpA0), (14801, lpA1), (48, inD), (13200, lpR0), (13202, lpR1), (13201, lpR2), (32, inD), (11900, lpAr2), (19, planD), (11200, lpSz), (12, sizesD), (11300, lpRs), (13, sizesD), (12050, lpPn), (12051, lpPt), (17020000, pcPu), (11000, lpP0), (10, placeD), (11500, lpQn), (11501, lpQk), (11502, lpQ0), (11503, lpQv), (11504, lpQv), (15, placeD), (11100, lpSs), (56, okInD), (13000, lpI0), (13001, lpI1), (30, withD), (16200, lpHas), (62, conD), (13100, lpV3), (13103, lpMx), (13101, lpMn), (13102, lpMc), (31, apD), (11, chD), (11600, lpT0), (11601, lpT1), (11602, lpT2), (45, okIrD), (14400, lpZd), (44, zdD), (14601, lpO0), (14600, lpO1), (14604, lpO2), (14602, lpO3), (14603, lpO4), (46, overD), (17500, lpHs), (75, hsD), (17600, lpIn), (76, innD), (16, chD), (13700, lpS4), (37, sameLD), (14, sameLD), (10801, lpF0), (10800, lpF1), (10802, lpF2), (10803, lpF3), (8, fewGD), (9, one), (10300, lpX1), (10301, lpX0), (10700, lpW1'), (10701, lpW2'), (10702, lpW0')]
def R : FuncId → List D → Prop := tabP [(17900, prWord), (19100, prWord), (20039, dpNm 105 [.str] 1 6), (20400, ixPr (dpNm 105 [.str] 1 6) 6), (104, ixPre (dpNm 105 [.str] 1 6) 6), (18200, prLab), (20054, dpNm 107 [.str, .int .i64] 2 2), (21100, ixPr (dpNm 107 [.str, .int .i64] 2 2) 2), (111, ixPre (dpNm 107 [.str, .int .i64] 2 2) 2), (106, ixPre (dpNm 107 [.str, .int .i64] 2 2) 2), (18400, prPorts), (53, prNode), (20051, dpNm 86 [.str, .int .i64] 2 2), (20800, ixPr (dpNm 86 [.str, .int .i64] 2 2) 2), (108, ixPre (dpNm 86 [.str, .int .i64] 2 2) 2), (85, ixPre (dpNm 86 [.str, .int .i64] 2 2) 2), (18900, prArL), (89, prAr), (87, prAr), (54, prClu), (12600, prV0), (12601, prV1), (12602, prV2), (19300, prFind), (19400, prPlain), (19501, prPortsR), (19500, prPortsI), (69, prNode), (19600, prDep), (96, prAr), (17000, prCluR), (70, prClu), (14200, prW0), (14201, prW1), (14202, prW2), (19000, iiPr), (16000, prMem), (19800, prHas), (98, prHasF), (17400, prMemR), (15000, prUn), (13500, prUr), (19900, prCk), (99, chkPre), (16400, prCr), (64, chkPre), (20000, prSh), (100, shPre), (16500, prSr), (65, chkPre), (20100, prEx), (101, extPre), (16600, prEr), (66, extPre), (17800, prBe), (78, bestPre), (13300, prBf), (33, bestPre), (20041, dpBx 24 27 59 77), (15100, ixPr (dpBx 24 27 59 77) 4), (51, ixPre (dpBx 24 27 59 77) 4), (25, ixPre (dpBx 24 27 59 77) 4), (12200, prOw), (22, ownCP), (13800, prOr), (38, ownRP), (14100, prKr), (41, kidRP), (13900, prBr2), (39, blkRP), (13400, prPr), (34, partRP), (12300, prBc2), (23, blkCP), (14900, prPk), (14901, prPl), (49, ownCP), (14800, prA0), (14801, prA1), (13200, prR0), (13202, prR1), (13201, prR2), (11900, prAr2), (11200, prSz), (11300, prRs), (12050, prPn), (12051, prPt), (17020000, prPu), (11000, prP0), (11500, prQn), (11501, prQk), (11502, prQ0), (11503, prQv), (11504, prQv), (11100, prSs), (56, okInP), (13000, prI0), (13001, prI1), (30, withP), (16200, prHas), (62, conP), (13100, prV3), (13103, prMx), (13101, prMn), (13102, prMc), (31, apP), (11600, prT0), (11601, prT1), (11602, prT2), (45, okIrP), (14400, prZd), (14601, prZd), (14600, prO1), (14604, prO2), (14602, prO3), (14603, prO4), (46, apP), (17500, prHs), (17600, prIn), (76, innP), (13700, prS4), (10801, prF0), (10800, prF1), (10802, prF2), (10803, prF3), (8, fewGP), (10300, prX1), (10301, prX0), (10700, prW1'), (10701, prW2'), (10702, prW0')]
theorem F102 : F 102 = fn102 := rfl
theorem R102 : R 102 = fun _ => True := rfl
theorem F103 : F 103 = fn103 := rfl
theorem R103 : R 103 = fun _ => True := rfl
theorem F17900 : F 17900 = lpWord := rfl
theorem R17900 : R 17900 = prWord := rfl
theorem F79 : F 79 = wordD := rfl
theorem R79 : R 79 = fun _ => True := rfl
theorem F80 : F 80 = fn80 := rfl
theorem R80 : R 80 = fun _ => True := rfl
theorem F52 : F 52 = nameD := rfl
theorem R52 : R 52 = fun _ => True := rfl
theorem F109 : F 109 = fn109 := rfl
theorem R109 : R 109 = fun _ => True := rfl
theorem F110 : F 110 = fn110 := rfl
theorem R110 : R 110 = fun _ => True := rfl
theorem F19100 : F 19100 = lpWord := rfl
theorem R19100 : R 19100 = prWord := rfl
theorem F91 : F 91 = wordD := rfl
theorem R91 : R 91 = fun _ => True := rfl
theorem F92 : F 92 = fn92 := rfl
theorem R92 : R 92 = fun _ => True := rfl
theorem F68 : F 68 = nameD := rfl
theorem R68 : R 68 = fun _ => True := rfl
theorem F20039 : F 20039 = dyNm := rfl
theorem R20039 : R 20039 = dpNm 105 [.str] 1 6 := rfl
theorem F20400 : F 20400 = ixLp dyNm 6 := rfl
theorem R20400 : R 20400 = ixPr (dpNm 105 [.str] 1 6) 6 := rfl
theorem F104 : F 104 = ixFn dyNm 6 := rfl
theorem R104 : R 104 = ixPre (dpNm 105 [.str] 1 6) 6 := rfl
theorem F81 : F 81 = findD := rfl
theorem R81 : R 81 = fun _ => True := rfl
theorem F18200 : F 18200 = lpLab := rfl
theorem R18200 : R 18200 = prLab := rfl
theorem F82 : F 82 = labelD := rfl
theorem R82 : R 82 = fun _ => True := rfl
theorem F83 : F 83 = fn83 := rfl
theorem R83 : R 83 = fun _ => True := rfl
theorem F20054 : F 20054 = dyNm := rfl
theorem R20054 : R 20054 = dpNm 107 [.str, .int .i64] 2 2 := rfl
theorem F21100 : F 21100 = ixLp dyNm 2 := rfl
theorem R21100 : R 21100 = ixPr (dpNm 107 [.str, .int .i64] 2 2) 2 := rfl
theorem F111 : F 111 = ixFn dyNm 2 := rfl
theorem R111 : R 111 = ixPre (dpNm 107 [.str, .int .i64] 2 2) 2 := rfl
theorem F106 : F 106 = cfFn dyNm 2 := rfl
theorem R106 : R 106 = ixPre (dpNm 107 [.str, .int .i64] 2 2) 2 := rfl
theorem F18400 : F 18400 = lpPorts := rfl
theorem R18400 : R 18400 = prPorts := rfl
theorem F84 : F 84 = ports8D := rfl
theorem R84 : R 84 = fun _ => True := rfl
theorem F53 : F 53 = nodeD := rfl
theorem R53 : R 53 = prNode := rfl
theorem F20051 : F 20051 = dyNm := rfl
theorem R20051 : R 20051 = dpNm 86 [.str, .int .i64] 2 2 := rfl
theorem F20800 : F 20800 = ixLp dyNm 2 := rfl
theorem R20800 : R 20800 = ixPr (dpNm 86 [.str, .int .i64] 2 2) 2 := rfl
theorem F108 : F 108 = ixFn dyNm 2 := rfl
theorem R108 : R 108 = ixPre (dpNm 86 [.str, .int .i64] 2 2) 2 := rfl
theorem F85 : F 85 = cfFn dyNm 2 := rfl
theorem R85 : R 85 = ixPre (dpNm 86 [.str, .int .i64] 2 2) 2 := rfl
theorem F18900 : F 18900 = lpAr := rfl
theorem R18900 : R 18900 = prArL := rfl
theorem F89 : F 89 = aroundD := rfl
theorem R89 : R 89 = prAr := rfl
theorem F87 : F 87 = depthD := rfl
theorem R87 : R 87 = prAr := rfl
theorem F54 : F 54 = cluD := rfl
theorem R54 : R 54 = prClu := rfl
theorem F55 : F 55 = edgeD := rfl
theorem R55 : R 55 = fun _ => True := rfl
theorem F12600 : F 12600 = lpV0 := rfl
theorem R12600 : R 12600 = prV0 := rfl
theorem F12601 : F 12601 = lpV1 := rfl
theorem R12601 : R 12601 = prV1 := rfl
theorem F12602 : F 12602 = lpV2 := rfl
theorem R12602 : R 12602 = prV2 := rfl
theorem F26 : F 26 = validD := rfl
theorem R26 : R 26 = fun _ => True := rfl
theorem F19300 : F 19300 = lpFind := rfl
theorem R19300 : R 19300 = prFind := rfl
theorem F93 : F 93 = findD := rfl
theorem R93 : R 93 = fun _ => True := rfl
theorem F19600 : F 19600 = lpDep := rfl
theorem R19600 : R 19600 = prDep := rfl
theorem F96 : F 96 = depthD := rfl
theorem R96 : R 96 = prAr := rfl
theorem F17000 : F 17000 = lpCluR := rfl
theorem R17000 : R 17000 = prCluR := rfl
theorem F19000 : F 19000 = iiLp := rfl
theorem R19000 : R 19000 = iiPr := rfl
theorem F90 : F 90 = iiFn := rfl
theorem R90 : R 90 = fun _ => True := rfl
theorem F61 : F 61 = ciFn := rfl
theorem R61 : R 61 = fun _ => True := rfl
theorem F16000 : F 16000 = lpMem := rfl
theorem R16000 : R 16000 = prMem := rfl
theorem F60 : F 60 = memD := rfl
theorem R60 : R 60 = fun _ => True := rfl
theorem F17 : F 17 = fn17 := rfl
theorem R17 : R 17 = fun _ => True := rfl
theorem F18 : F 18 = fn18 := rfl
theorem R18 : R 18 = fun _ => True := rfl
theorem F58 : F 58 = fn58 := rfl
theorem R58 : R 58 = fun _ => True := rfl
theorem F57 : F 57 = fn57 := rfl
theorem R57 : R 57 = fun _ => True := rfl
theorem F29 : F 29 = fn29 := rfl
theorem R29 : R 29 = fun _ => True := rfl
theorem F21 : F 21 = fn21 := rfl
theorem R21 : R 21 = fun _ => True := rfl
theorem F28 : F 28 = fn28 := rfl
theorem R28 : R 28 = fun _ => True := rfl
theorem F15000 : F 15000 = lpUn := rfl
theorem R15000 : R 15000 = prUn := rfl
theorem F50 : F 50 = uniD := rfl
theorem R50 : R 50 = fun _ => True := rfl
theorem F19900 : F 19900 = lpCk := rfl
theorem R19900 : R 19900 = prCk := rfl
theorem F99 : F 99 = chkD := rfl
theorem R99 : R 99 = chkPre := rfl
theorem F20000 : F 20000 = lpSh := rfl
theorem R20000 : R 20000 = prSh := rfl
theorem F100 : F 100 = shD := rfl
theorem R100 : R 100 = shPre := rfl
theorem F20100 : F 20100 = lpEx := rfl
theorem R20100 : R 20100 = prEx := rfl
theorem F101 : F 101 = extD := rfl
theorem R101 : R 101 = extPre := rfl
theorem F17800 : F 17800 = lpBe := rfl
theorem R17800 : R 17800 = prBe := rfl
theorem F78 : F 78 = bestD := rfl
theorem R78 : R 78 = bestPre := rfl
theorem F20041 : F 20041 = dyBx := rfl
theorem R20041 : R 20041 = dpBx 24 27 59 77 := rfl
theorem F15100 : F 15100 = ixLp dyBx 4 := rfl
theorem R15100 : R 15100 = ixPr (dpBx 24 27 59 77) 4 := rfl
theorem F51 : F 51 = ixFn dyBx 4 := rfl
theorem R51 : R 51 = ixPre (dpBx 24 27 59 77) 4 := rfl
theorem F25 : F 25 = cfFn dyBx 4 := rfl
theorem R25 : R 25 = ixPre (dpBx 24 27 59 77) 4 := rfl
theorem F12200 : F 12200 = lpOw := rfl
theorem R12200 : R 12200 = prOw := rfl
theorem F22 : F 22 = ownCD := rfl
theorem R22 : R 22 = ownCP := rfl
theorem F12300 : F 12300 = lpBc2 := rfl
theorem R12300 : R 12300 = prBc2 := rfl
theorem F23 : F 23 = blkCD := rfl
theorem R23 : R 23 = blkCP := rfl
theorem F14900 : F 14900 = lpPk := rfl
theorem R14900 : R 14900 = prPk := rfl
theorem F14901 : F 14901 = lpPl := rfl
theorem R14901 : R 14901 = prPl := rfl
theorem F49 : F 49 = packD := rfl
theorem R49 : R 49 = ownCP := rfl
theorem F14800 : F 14800 = lpA0 := rfl
theorem R14800 : R 14800 = prA0 := rfl
theorem F14801 : F 14801 = lpA1 := rfl
theorem R14801 : R 14801 = prA1 := rfl
theorem F48 : F 48 = inD := rfl
theorem R48 : R 48 = fun _ => True := rfl
theorem F11900 : F 11900 = lpAr2 := rfl
theorem R11900 : R 11900 = prAr2 := rfl
theorem F19 : F 19 = planD := rfl
theorem R19 : R 19 = fun _ => True := rfl
theorem F11200 : F 11200 = lpSz := rfl
theorem R11200 : R 11200 = prSz := rfl
theorem F12 : F 12 = sizesD := rfl
theorem R12 : R 12 = fun _ => True := rfl
theorem F12050 : F 12050 = lpPn := rfl
theorem R12050 : R 12050 = prPn := rfl
theorem F12051 : F 12051 = lpPt := rfl
theorem R12051 : R 12051 = prPt := rfl
theorem F17020000 : F 17020000 = pcPu := rfl
theorem R17020000 : R 17020000 = prPu := rfl
theorem F11000 : F 11000 = lpP0 := rfl
theorem R11000 : R 11000 = prP0 := rfl
theorem F10 : F 10 = placeD := rfl
theorem R10 : R 10 = fun _ => True := rfl
theorem F11100 : F 11100 = lpSs := rfl
theorem R11100 : R 11100 = prSs := rfl
theorem F56 : F 56 = okInD := rfl
theorem R56 : R 56 = okInP := rfl
theorem F13000 : F 13000 = lpI0 := rfl
theorem R13000 : R 13000 = prI0 := rfl
theorem F13001 : F 13001 = lpI1 := rfl
theorem R13001 : R 13001 = prI1 := rfl
theorem F30 : F 30 = withD := rfl
theorem R30 : R 30 = withP := rfl
theorem F16200 : F 16200 = lpHas := rfl
theorem R16200 : R 16200 = prHas := rfl
theorem F62 : F 62 = conD := rfl
theorem R62 : R 62 = conP := rfl
theorem F13100 : F 13100 = lpV3 := rfl
theorem R13100 : R 13100 = prV3 := rfl
theorem F13103 : F 13103 = lpMx := rfl
theorem R13103 : R 13103 = prMx := rfl
theorem F13101 : F 13101 = lpMn := rfl
theorem R13101 : R 13101 = prMn := rfl
theorem F13102 : F 13102 = lpMc := rfl
theorem R13102 : R 13102 = prMc := rfl
theorem F31 : F 31 = apD := rfl
theorem R31 : R 31 = apP := rfl
theorem F11 : F 11 = chD := rfl
theorem R11 : R 11 = fun _ => True := rfl
theorem F13700 : F 13700 = lpS4 := rfl
theorem R13700 : R 13700 = prS4 := rfl
theorem F37 : F 37 = sameLD := rfl
theorem R37 : R 37 = fun _ => True := rfl
theorem F14 : F 14 = sameLD := rfl
theorem R14 : R 14 = fun _ => True := rfl
theorem F10801 : F 10801 = lpF0 := rfl
theorem R10801 : R 10801 = prF0 := rfl
theorem F10800 : F 10800 = lpF1 := rfl
theorem R10800 : R 10800 = prF1 := rfl
theorem F10802 : F 10802 = lpF2 := rfl
theorem R10802 : R 10802 = prF2 := rfl
theorem F10803 : F 10803 = lpF3 := rfl
theorem R10803 : R 10803 = prF3 := rfl
theorem F8 : F 8 = fewGD := rfl
theorem R8 : R 8 = fewGP := rfl
theorem F9 : F 9 = one := rfl
theorem R9 : R 9 = fun _ => True := rfl
theorem F10700 : F 10700 = lpW1' := rfl
theorem R10700 : R 10700 = prW1' := rfl
theorem F10701 : F 10701 = lpW2' := rfl
theorem R10701 : R 10701 = prW2' := rfl
theorem F10702 : F 10702 = lpW0' := rfl
theorem R10702 : R 10702 = prW0' := rfl
end Go.Proofs.Ytindllmeeckfcaa.rv
namespace Go.Proofs.Ytindllmeeckfcaa.rv
set_option maxRecDepth 10000
open Go.RV
theorem fn47_eq (a b : D) : fn47 [a, b] = [.b (ptB a.int b.int)] := by
  simp only [fn47, vt47, VT.val, X.ds, X.d, Op2.ev, List.getD_cons_zero, List.getD_cons_succ, D.int_i, D.bool_b, ite_b, ite_and, ptB, Bool.and_assoc]
theorem fn17_eq (a b c d : D) : fn17 [a, b, c, d] = [.b (bxB a.int b.int c.int d.int)] := by
  simp only [fn17, vt17, VT.val, X.outs, X.ds, X.d, Op2.ev, takeD_zero, takeD_cons, List.cons_append, List.nil_append, List.getD_cons_zero, List.getD_cons_succ, D.bool_b, ite_b, ite_and, show T17 47 = fn47 from rfl, fn47_eq, bxB]
theorem fn57_eq (a b c d e f g h : D) : fn57 [a, b, c, d, e, f, g, h] = [.b (inB (a.int, b.int, c.int, d.int) (e.int, f.int, g.int, h.int))] := by
  simp only [fn57, vt57, VT.val, X.outs, X.ds, X.d, Op2.ev, takeD_zero, takeD_cons, List.cons_append, List.nil_append, List.getD_cons_zero, List.getD_cons_succ, D.bool_b, ite_b, ite_and, show T57 17 = fn17 from rfl, fn17_eq, inB, bxQ]
end Go.Proofs.Ytindllmeeckfcaa.rv
namespace Go.Proofs.Ytindllmeeckfcaa.rv
set_option maxRecDepth 10000
open Go.RV
theorem fn18_eq (a b c d e f g h : D) : fn18 [a, b, c, d, e, f, g, h] = [.b (ovQ (a.int, b.int, c.int, d.int) (e.int, f.int, g.int, h.int))] := by
  simp only [fn18, vt18, VT.val, X.outs, X.ds, X.d, Op2.ev, takeD_zero, takeD_cons, List.cons_append, List.nil_append, List.getD_cons_zero, List.getD_cons_succ, D.int_i, D.bool_b, ite_b, ite_and, imin, imax, show T18 17 = fn17 from rfl, fn17_eq, ovQ, bxQ]
theorem infl_no {q : Bx} {k : Int} (h : bxQ q = false ∨ k < -536870912 ∨ 536870912 < k) : inflQ q k = z4 := by
  unfold inflQ
  rw [if_neg]
  rintro ⟨h1, h2, h3, _⟩
  rcases h with h | h | h
  · rw [h] at h1; cases h1
  · omega
  · omega
theorem fn88_eq (a b c d : Int) : fn88 [.i a, .i b, .i c, .i d] = if bxB a b c d = true then [.i a, .i b, .i c, .i d] else [.i 0, .i 0, .i 0, .i 0] := by
  simp only [fn88, vt88, VT.val, X.outs, X.ds, X.d, Op1.ev, takeD_zero, takeD_cons, List.cons_append, List.nil_append, List.getD_cons_zero, List.getD_cons_succ, D.int_i, D.bool_b, show T88 17 = fn17 from rfl, fn17_eq]
  cases h : bxB a b c d <;> rfl
theorem fn58_eq (q : Bx) (k : Int) : fn58 [.i q.1, .i q.2.1, .i q.2.2.1, .i q.2.2.2, .i k] = encQ (inflQ q k) := by
  simp only [fn58, vt58, VT.val, X.outs, X.ds, X.d, Op1.ev, Op2.ev, takeD_zero, takeD_cons, List.cons_append, List.nil_append, List.getD_cons_zero, List.getD_cons_succ, D.int_i, D.bool_b, ite_b, ite_or, show T58 17 = fn17 from rfl, show T58 88 = fn88 from rfl, fn17_eq]
  cases hv : bxB q.1 q.2.1 q.2.2.1 q.2.2.2 with
  | false => rw [infl_no (.inl hv)]; rfl
  | true =>
    by_cases h1 : 536870912 < k
    · rw [infl_no (.inr (.inr h1))]; simp [h1]; rfl
    · by_cases h2 : k < -536870912
      · rw [infl_no (.inr (.inl h2))]; simp [h2]; rfl
      · have := bxB_iff.1 hv
        have e1 : IntKind.i64.wrap (q.1 - k) = q.1 - k := w64 (by omega)
        have e2 : IntKind.i64.wrap (q.2.1 - k) = q.2.1 - k := w64 (by omega)
        have e3 : IntKind.i64.wrap (q.2.2.1 + k) = q.2.2.1 + k := w64 (by omega)
        have e4 : IntKind.i64.wrap (q.2.2.2 + k) = q.2.2.2 + k := w64 (by omega)
        have h3 : -536870912 ≤ k := by omega
        have h4 : k ≤ 536870912 := by omega
        simp only [h1, h2, decide_false, Bool.not_true, Bool.or_self, Bool.false_eq_true, if_false, e1, e2, e3, e4, fn88_eq, inflQ, bxQ, hv, h3, h4, true_and]
        cases hw : bxB (q.1 - k) (q.2.1 - k) (q.2.2.1 + k) (q.2.2.2 + k) <;> rfl
theorem fn29_eq (q : Bx) (h : smQ q) : fn29 [.i q.1, .i q.2.1, .i q.2.2.1, .i q.2.2.2] = encP (extQ q) := by
  unfold smQ at h
  show [D.i (IntKind.i64.wrap (q.2.2.1 - q.1)), D.i (IntKind.i64.wrap (q.2.2.2 - q.2.1))] = _
  rw [w64 (by omega), w64 (by omega)]; rfl
theorem fn21_eq (q : Bx) (x y : Int) (h : smQ q) (hx : sm x) (hy : sm y) : fn21 [.i q.1, .i q.2.1, .i q.2.2.1, .i q.2.2.2, .i x, .i y] = encQ (shQ q x y) := by
  unfold smQ at h; unfold sm at hx hy
  show [D.i (IntKind.i64.wrap (q.1 + x)), D.i (IntKind.i64.wrap (q.2.1 + y)), D.i (IntKind.i64.wrap (q.2.2.1 + x)), D.i (IntKind.i64.wrap (q.2.2.2 + y))] = _
  rw [w64 (by omega), w64 (by omega), w64 (by omega), w64 (by omega)]; rfl
theorem fn28_eq (a b c d e : Int) : fn28 [.i a, .i b, .i c, .i d, .i e] = [.b (Od.ok ⟨a, b, c, d, e⟩)] := by
  simp only [fn28, vt28, VT.val, X.ds, X.d, Op2.ev, List.getD_cons_zero, List.getD_cons_succ, D.int_i, D.bool_b, ite_b, ite_and, imin, imax]
  congr 2
  rw [Bool.eq_iff_iff, Od.ok_iff]
  simp only [Bool.and_eq_true, beq_iff_eq]
  omega
theorem fn24_eq (q : Bx) : fn24 [.i q.1, .i q.2.1, .i q.2.2.1, .i q.2.2.2] = [.b (!bxQ q)] := by
  simp only [fn24, vt24, VT.val, X.outs, X.ds, X.d, Op1.ev, takeD_zero, takeD_cons, List.cons_append, List.nil_append, List.getD_cons_zero, List.getD_cons_succ, D.int_i, D.bool_b, show T24 17 = fn17 from rfl, fn17_eq, bxQ]
theorem fn27_eq (q : Bx) : fn27 [.i q.1, .i q.2.1, .i q.2.2.1, .i q.2.2.2] = [.b (!bxQ q)] := by
  simp only [fn27, vt27, VT.val, X.outs, X.ds, X.d, Op1.ev, takeD_zero, takeD_cons, List.cons_append, List.nil_append, List.getD_cons_zero, List.getD_cons_succ, D.int_i, D.bool_b, show T27 17 = fn17 from rfl, fn17_eq, bxQ]
theorem fn59_eq (q r : Bx) : fn59 [.i q.1, .i q.2.1, .i q.2.2.1, .i q.2.2.2, .p (encQ r)] = [.b (ovQ q r)] := by
  simp only [fn59, vt59, VT.val, X.outs, X.ds, X.d, takeD_zero, takeD_cons, List.cons_append, List.nil_append, List.getD_cons_zero, List.getD_cons_succ, D.int_i, show T59 18 = fn18 from rfl, fn18_eq, encQ, D.ptd_p]
theorem fn77_eq (q r : Bx) : fn77 [.i q.1, .i q.2.1, .i q.2.2.1, .i q.2.2.2, .p (encQ r)] = [.b (ovQ q r)] := by
  simp only [fn77, vt77, VT.val, X.outs, X.ds, X.d, takeD_zero, takeD_cons, List.cons_append, List.nil_append, List.getD_cons_zero, List.getD_cons_succ, D.int_i, show T77 18 = fn18 from rfl, fn18_eq, encQ, D.ptd_p]
theorem m20041 : Meets Try.prog 20041 S20041 (R 20041) (F 20041) := by
  refine meets_dyn (by decide) rfl fun d ds hf hp => ?_
  obtain ⟨f, q, ⟨e, hf'⟩ | ⟨r, e, hf'⟩⟩ : dpBx 24 27 59 77 (d :: ds) := hp
  · cases e
    rcases hf' with rfl | rfl
    · exact ⟨_, [], [], S24, _, fn24, rfl, by decide, m24, rfl, rfl, trivial, fn24_eq q⟩
    · exact ⟨_, [], [], S27, _, fn27, rfl, by decide, m27, rfl, rfl, trivial, fn27_eq q⟩
  · cases e
    rcases hf' with rfl | rfl
    · exact ⟨_, [.pt [.int .i64, .int .i64, .int .i64, .int .i64]], [.p (encQ r)], S59, _, fn59, rfl, by decide, m59, rfl, rfl, trivial, fn59_eq q r⟩
    · exact ⟨_, [.pt [.int .i64, .int .i64, .int .i64, .int .i64]], [.p (encQ r)], S77, _, fn77, rfl, by decide, m77, rfl, rfl, trivial, fn77_eq q r⟩
end Go.Proofs.Ytindllmeeckfcaa.rv
namespace Go.Proofs.Ytindllmeeckfcaa.rv
set_option maxRecDepth 10000
open Go.RV
theorem loopM51_0 : LoopMeets Try.prog F (R L51_0.key) L51_0 lb51_0 := by
  refine loop_meets (pre := R) mixed (sgAt_all (P := Try.prog) (pre := R) (Φ := F) (l := sg51) (List.forall_mem_cons.2 ⟨Meets.at (pre := R) (Φ := F) m20041, (fun _ h => nomatch h)⟩)) (loops_n 0 lk51_0 fun k hk => by omega) L51_0 (fun ρ => ((ρ.getD 3 default).int - (ρ.getD 4 default).int).toNat) le51_0 fun ρ _ hq => ?_
  obtain ⟨xs, c, v, j, rfl, hj, hm, hp⟩ : ixPr (dpBx 24 27 59 77) 4 ρ := hq
  rw [maxLen_val] at hm
  by_cases hlt : j < xs.length
  · simp (disch := omega) only [rt51_0, VT.ok, Nd.holds, X.outs, X.ds, X.d, Op1.ev, Op2.ev, List.cons_append, List.nil_append, List.getD_cons_zero, List.getD_cons_succ, D.int_i, D.bool_b, D.lst_l, Int.toNat_natCast, implies_true, true_and, takeD1_0, F20041, R20041, ↓reduceIte, dle_t, dlt_t, w64']
    refine ⟨fun _ => hp j hlt, ?_⟩
    show if ((dyBx (c :: cellsN 4 (el xs j))).getD 0 default).bool = true then _ else _
    cases hb : ((dyBx (c :: cellsN 4 (el xs j))).getD 0 default).bool
    · simp only [Bool.false_eq_true, if_false]
      refine round_next ⟨⟨xs, c, v, j + 1, rfl, by omega, hm, hp⟩, ?_, ?_⟩
      · show ((xs.length : Int) - ((j + 1 : Nat) : Int)).toNat < ((xs.length : Int) - (j : Int)).toNat
        omega
      · show ixLp dyBx 4 [.l xs, c, v, .i (xs.length : Int), .i ((j + 1 : Nat) : Int)] = ixLp dyBx 4 [.l xs, c, v, .i (xs.length : Int), .i (j : Int)]
        simp only [ixLp, Int.toNat_natCast]
        exact scan_next hlt hb
    · simp only [if_true]
      refine round_exit (by omega) ?_
      show ixLp dyBx 4 [.l xs, c, v, .i (xs.length : Int), .i (j : Int)] = _
      simp only [ixLp, Int.toNat_natCast]
      exact scan_hit hlt hb
  · have hj' : j = xs.length := by omega
    subst hj'
    simp (disch := omega) only [rt51_0, VT.ok, X.ds, X.d, Op2.ev, List.getD_cons_zero, List.getD_cons_succ, D.int_i, D.bool_b, Bool.false_eq_true, ↓reduceIte, dlt_f]
    refine round_exit (by omega) ?_
    show ixLp dyBx 4 [.l xs, c, v, .i (xs.length : Int), .i (xs.length : Int)] = _
    simp only [ixLp, Int.toNat_natCast]
    exact scan_end
theorem m51 : Meets Try.prog 51 S51 (R 51) (F 51) := by
  refine meets_of_vt (pre := R) (Φ := F) mixed (sgAt_all (P := Try.prog) (pre := R) (Φ := F) (l := sg51) (List.forall_mem_cons.2 ⟨Meets.at (pre := R) (Φ := F) m20041, (fun _ h => nomatch h)⟩)) Try.func51 b51 n51 (loops_n 1 k51 fun k hk => match k, hk with | 0, _ => loop_this lf51_0 loopM51_0) e51 fun ds hf hq => ?_
  obtain ⟨x, c, rfl, hx, _⟩ := fits2 hf.flat
  obtain ⟨xs, rfl, hm, _⟩ := wf_sl hx
  have hq : ∀ i, i < xs.length → (dpBx 24 27 59 77) (c :: cellsN 4 (el xs i)) := hq
  have hpre : ixPr (dpBx 24 27 59 77) 4 [.l xs, c, .i 0, .i (xs.length : Int), .i 0] := ⟨xs, c, .i 0, 0, rfl, by omega, hm, hq⟩
  simp only [vt51, VT.ok, Nd.holds, X.outs, X.ds, X.d, Op1.ev, Op2.ev, List.cons_append, List.nil_append, List.getD_cons_zero, List.getD_cons_succ, D.int_i, D.bool_b, D.lst_l, F15100, R15100, F51]
  refine ⟨fun _ => hpre, ?_⟩
  simp only [ixLp, ixFn, Int.toNat_zero, Nat.sub_zero, scan_fs, ixI, cL, List.getD_cons_zero, List.getD_cons_succ, D.lst_l]
  split <;> rfl
theorem m25 : Meets Try.prog 25 S25 (R 25) (F 25) := by
  refine meets_of_vt (pre := R) (Φ := F) mixed (sgAt_all (P := Try.prog) (pre := R) (Φ := F) (l := sg25) (List.forall_mem_cons.2 ⟨Meets.at (pre := R) (Φ := F) m51, (fun _ h => nomatch h)⟩)) Try.func25 b25 n25 (loops_n 0 k25 fun k hk => by omega) e25 fun ds hf hq => ?_
  obtain ⟨x, c, rfl, hx, _⟩ := fits2 hf.flat
  simp only [vt25, VT.ok, Nd.holds, X.outs, X.ds, X.d, Op2.ev, takeD_zero, takeD_cons, List.cons_append, List.nil_append, List.getD_cons_zero, List.getD_cons_succ, D.int_i, D.bool_b, and_true, F51, R51, F25, ixFn, cfFn, ixI_any]
  exact fun _ => hq
theorem cellsQ (q : Bx) : cellsN 4 (encQ q) = [.i q.1, .i q.2.1, .i q.2.2.1, .i q.2.2.2] := rfl
theorem rowB {l : List Bx} {i : Nat} (h : i < l.length) : el (l.map encQ) i = encQ (l.getD i z4) := row_get z4 h
theorem cf_bad {f : FuncId} (hf : f = 24 ∨ f = 27) (l : List Bx) :
    R 25 [.l (l.map encQ), .c f [] []] ∧ F 25 [.l (l.map encQ), .c f [] []] = [.b (badL l)] := by
  rw [R25, F25]
  refine ⟨fun i hi => ?_, ?_⟩
  · have hi : i < l.length := by simpa [cL] using hi
    show dpBx _ _ _ _ (.c f [] [] :: cellsN 4 (el (l.map encQ) i))
    rw [rowB hi, cellsQ]
    exact ⟨f, _, .inl ⟨rfl, hf⟩⟩
  · show [D.b (anyN (fun j => ((dyBx (.c f [] [] :: cellsN 4 (el (l.map encQ) j))).getD 0 default).bool) (l.map encQ).length)] = _
    rw [List.length_map]
    refine congrArg (fun b => [D.b b]) (anyN_congr fun k hk => ?_)
    rw [rowB hk, cellsQ]; rfl
theorem cf_ov {f : FuncId} (hf : f = 59 ∨ f = 77) (l : List Bx) (q : Bx) :
    R 25 [.l (l.map encQ), .c f [.pt [.int .i64, .int .i64, .int .i64, .int .i64]] [.p (encQ q)]] ∧ F 25 [.l (l.map encQ), .c f [.pt [.int .i64, .int .i64, .int .i64, .int .i64]] [.p (encQ q)]] = [.b (anyN (ovJ l q) l.length)] := by
  rw [R25, F25]
  refine ⟨fun i hi => ?_, ?_⟩
  · have hi : i < l.length := by simpa [cL] using hi
    show dpBx _ _ _ _ (.c f [.pt [.int .i64, .int .i64, .int .i64, .int .i64]] [.p (encQ q)] :: cellsN 4 (el (l.map encQ) i))
    rw [rowB hi, cellsQ]
    exact ⟨f, _, .inr ⟨q, rfl, hf⟩⟩
  · show [D.b (anyN (fun j => ((dyBx (.c f [.pt [.int .i64, .int .i64, .int .i64, .int .i64]] [.p (encQ q)] :: cellsN 4 (el (l.map encQ) j))).getD 0 default).bool) (l.map encQ).length)] = _
    rw [List.length_map]
    refine congrArg (fun b => [D.b b]) (anyN_congr fun k hk => ?_)
    rw [rowB hk, cellsQ]; rfl
theorem ov_take {l : List Bx} {i : Nat} (h : i ≤ l.length) (q : Bx) : anyN (ovJ (l.take i) q) (l.take i).length = anyN (ovJ l q) i := by
  rw [List.length_take, Nat.min_eq_left h]
  refine anyN_congr fun k hk => ?_
  unfold ovJ
  congr 1
  simp only [List.getD]
  rw [List.getElem?_take, if_pos hk]
theorem loopM50_0 : LoopMeets Try.prog F (R L50_0.key) L50_0 lb50_0 := by
  refine loop_meets (pre := R) mixed (sgAt_all (P := Try.prog) (pre := R) (Φ := F) (l := sg50) (List.forall_mem_cons.2 ⟨Meets.at (pre := R) (Φ := F) m17, (fun _ h => nomatch h)⟩)) (loops_n 0 lk50_0 fun k hk => by omega) L50_0 (fun ρ => ((ρ.getD 2 default).int - (ρ.getD 3 default).int).toNat) le50_0 fun ρ _ hq => ?_
  obtain ⟨f, xs, a, b, c, d, j, rfl, hj, hm, hbx⟩ : prUn ρ := hq
  rw [maxLen_val] at hm
  by_cases hlt : j < xs.length
  · obtain ⟨e0, e1, e2, e3⟩ := hbx j hlt
    have hmu : ((xs.length : Int) - ((j + 1 : Nat) : Int)).toNat < ((xs.length : Int) - (j : Int)).toNat := by omega
    simp (disch := omega) only [rt50_0, VT.ok, Nd.holds, X.outs, X.ds, X.d, Op1.ev, Op2.ev, takeD_zero, takeD_cons, List.cons_append, List.nil_append, List.getD_cons_zero, List.getD_cons_succ, D.int_i, D.bool_b, D.lst_l, imin, imax, Int.toNat_natCast, implies_true, true_and, F17, R17, ↓reduceIte, dle_t, dlt_t, w64', fn17_eq, e0, e1, e2, e3]
    cases hb : bxB (cI (el xs j) 0) (cI (el xs j) (0 + 1)) (cI (el xs j) (0 + 2)) (cI (el xs j) (0 + 3))
    · simp only [Bool.not_false, if_true]
      refine round_next ⟨⟨f, xs, a, b, c, d, j + 1, rfl, by omega, hm, hbx⟩, hmu, ?_⟩
      show lpUn [.b f, .l xs, .i (xs.length : Int), .i ((j + 1 : Nat) : Int), .i a, .i b, .i c, .i d] = lpUn [.b f, .l xs, .i (xs.length : Int), .i (j : Int), .i a, .i b, .i c, .i d]
      have e : uniS xs j (!f, (a, b, c, d)) = uniS xs (j + 1) (!f, (a, b, c, d)) := by
        unfold uniS
        rw [fold_next hlt]
        have hb' : bxQ (rQ (el xs j) 0) = false := hb
        rw [hb']
        rfl
      simp only [lpUn, Int.toNat_natCast, e]
    · have hb' : bxQ (rQ (el xs j) 0) = true := hb
      simp only [Bool.not_true, Bool.false_eq_true, if_false]
      cases f
      · simp only [Bool.false_eq_true, if_false]
        refine round_next ⟨⟨false, xs, _, _, _, _, j + 1, rfl, by omega, hm, hbx⟩, hmu, ?_⟩
        have e : uniS xs j (true, (a, b, c, d)) = uniS xs (j + 1) (true, join (a, b, c, d) (rQ (el xs j) 0)) := by
          unfold uniS
          rw [fold_next hlt, hb']
          rfl
        show lpUn [.b false, .l xs, .i (xs.length : Int), .i ((j + 1 : Nat) : Int), .i (join (a, b, c, d) (rQ (el xs j) 0)).1, .i (join (a, b, c, d) (rQ (el xs j) 0)).2.1, .i (join (a, b, c, d) (rQ (el xs j) 0)).2.2.1, .i (join (a, b, c, d) (rQ (el xs j) 0)).2.2.2] = lpUn [.b false, .l xs, .i (xs.length : Int), .i (j : Int), .i a, .i b, .i c, .i d]
        simp only [lpUn, Int.toNat_natCast, Bool.not_false, e]
      · simp only [if_true]
        refine round_next ⟨⟨false, xs, _, _, _, _, j + 1, rfl, by omega, hm, hbx⟩, hmu, ?_⟩
        have e : uniS xs j (false, (a, b, c, d)) = uniS xs (j + 1) (true, rQ (el xs j) 0) := by
          unfold uniS
          rw [fold_next hlt, hb']
          rfl
        show lpUn [.b false, .l xs, .i (xs.length : Int), .i ((j + 1 : Nat) : Int), .i (rQ (el xs j) 0).1, .i (rQ (el xs j) 0).2.1, .i (rQ (el xs j) 0).2.2.1, .i (rQ (el xs j) 0).2.2.2] = lpUn [.b true, .l xs, .i (xs.length : Int), .i (j : Int), .i a, .i b, .i c, .i d]
        simp only [lpUn, Int.toNat_natCast, Bool.not_false, Bool.not_true, e]
  · have hj' : j = xs.length := by omega
    subst hj'
    simp (disch := omega) only [rt50_0, VT.ok, X.ds, X.d, Op2.ev, List.getD_cons_zero, List.getD_cons_succ, D.int_i, D.bool_b, Bool.false_eq_true, ↓reduceIte, dlt_f]
    refine round_exit (by omega) ?_
    show lpUn [.b f, .l xs, .i (xs.length : Int), .i (xs.length : Int), .i a, .i b, .i c, .i d] = _
    simp only [lpUn, Int.toNat_natCast, uniS, fold_end, Bool.not_not, dQ]
theorem boxyU {xs : List (List D)} (h : ∀ x ∈ xs, FitsF [.int .i64, .int .i64, .int .i64, .int .i64] x) : boxy xs 0 := fun i hi => by
  obtain ⟨x, y, z, w, e, hx, hy, hz, hw⟩ := fits4 (h _ (getD_mem [] hi))
  obtain ⟨_, rfl, _⟩ := wf_i64 hx
  obtain ⟨_, rfl, _⟩ := wf_i64 hy
  obtain ⟨_, rfl, _⟩ := wf_i64 hz
  obtain ⟨_, rfl, _⟩ := wf_i64 hw
  simp only [cI, el]
  rw [e]
  exact ⟨rfl, rfl, rfl, rfl⟩
theorem m50 : Meets Try.prog 50 S50 (R 50) (F 50) := by
  refine meets_of_vt (pre := R) (Φ := F) mixed (sgAt_all (P := Try.prog) (pre := R) (Φ := F) (l := sg50) (List.forall_mem_cons.2 ⟨Meets.at (pre := R) (Φ := F) m17, (fun _ h => nomatch h)⟩)) Try.func50 b50 n50 (loops_n 1 k50 fun k hk => match k, hk with | 0, _ => loop_this lf50_0 loopM50_0) e50 fun ds hf _ => ?_
  obtain ⟨x, rfl, hx⟩ := fits1 hf.flat
  obtain ⟨xs, rfl, hm, hfx⟩ := wf_sl hx
  have hpre : prUn [.b true, .l xs, .i (xs.length : Int), .i 0, .i 0, .i 0, .i 0, .i 0] := ⟨true, xs, 0, 0, 0, 0, 0, rfl, by omega, hm, boxyU hfx⟩
  simp only [vt50, VT.ok, Nd.holds, X.outs, X.ds, X.d, Op1.ev, List.cons_append, List.nil_append, List.getD_cons_zero, List.getD_cons_succ, D.bool_b, D.lst_l, F15000, R15000, F50]
  exact ⟨fun _ => hpre, rfl⟩
end Go.Proofs.Ytindllmeeckfcaa.rv
namespace Go.Proofs.Ytindllmeeckfcaa.rv
set_option maxRecDepth 10000
open Go.RV
theorem rowPz {l : List Pt} {i : Nat} (h : i < l.length) : (l.map encP).getD i [] = encP (l.getD i pz) := row_get pz h
theorem rowQz {l : List Bx} {i : Nat} (h : i < l.length) : (l.map encQ).getD i [] = encQ (l.getD i z4) := row_get z4 h
theorem loopM99_0 : LoopMeets Try.prog F (R L99_0.key) L99_0 lb99_0 := by
  refine loop_meets (pre := R) mixed (sgAt_all (P := Try.prog) (pre := R) (Φ := F) (l := sg99) ((fun _ h => nomatch h))) (loops_n 0 lk99_0 fun k hk => by omega) L99_0 (fun ρ => ((ρ.getD 2 default).int - (ρ.getD 3 default).int).toNat) le99_0 fun ρ _ hq => ?_
  obtain ⟨v, l, j, rfl, hj, hm⟩ : prCk ρ := hq
  rw [maxLen_val] at hm
  by_cases hlt : j < l.length
  · simp (disch := omega) only [rt99_0, VT.ok, Nd.holds, X.ds, X.d, Op1.ev, Op2.ev, List.getD_cons_zero, List.getD_cons_succ, D.int_i, D.bool_b, D.lst_l, ite_b, ite_or, imin, imax, Int.toNat_natCast, List.length_map, implies_true, true_and, ↓reduceIte, dle_t, dlt_t, w64', rowPz, encP]
    show if badAt l j = true then _ else _
    cases hb : badAt l j
    · simp only [Bool.false_eq_true, if_false]
      refine round_next ⟨⟨v, l, j + 1, rfl, by omega, hm⟩, ?_, ?_⟩
      · show ((l.length : Int) - ((j + 1 : Nat) : Int)).toNat < ((l.length : Int) - (j : Int)).toNat
        omega
      · show lpCk [.i v, .l (l.map encP), .i (l.length : Int), .i ((j + 1 : Nat) : Int)] = lpCk [.i v, .l (l.map encP), .i (l.length : Int), .i (j : Int)]
        simp only [lpCk, map_decP, List.length_map, Int.toNat_natCast]
        exact scan_next hlt hb
    · simp only [if_true]
      refine round_exit (by omega) ?_
      show lpCk [.i v, .l (l.map encP), .i (l.length : Int), .i (j : Int)] = _
      simp only [lpCk, map_decP, List.length_map, Int.toNat_natCast]
      exact scan_hit hlt hb
  · have hj' : j = l.length := by omega
    subst hj'
    simp (disch := omega) only [rt99_0, VT.ok, X.ds, X.d, Op2.ev, List.getD_cons_zero, List.getD_cons_succ, D.int_i, D.bool_b, Bool.false_eq_true, ↓reduceIte, dlt_f]
    refine round_exit (by omega) ?_
    show lpCk [.i v, .l (l.map encP), .i (l.length : Int), .i (l.length : Int)] = _
    simp only [lpCk, map_decP, List.length_map, Int.toNat_natCast]
    exact scan_end
theorem arg_cond (w g : Int) : (decide (w < 0) || decide (268435456 < w) || decide (g < 0) || decide (1048576 < g)) = argBad w g := rfl
theorem m99 : Meets Try.prog 99 S99 (R 99) (F 99) := by
  refine meets_of_vt (pre := R) (Φ := F) mixed (sgAt_all (P := Try.prog) (pre := R) (Φ := F) (l := sg99) ((fun _ h => nomatch h))) Try.func99 b99 n99 (loops_n 1 k99 fun k hk => match k, hk with | 0, _ => loop_this lf99_0 loopM99_0) e99 fun ds _ hp => ?_
  obtain ⟨l, w, g, rfl, hm⟩ : chkPre ds := hp
  have hpre : prCk [.i 0, .l (l.map encP), .i (l.length : Int), .i 0] := ⟨0, l, 0, rfl, by omega, hm⟩
  have hl : lpCk [.i 0, .l (l.map encP), .i (l.length : Int), .i 0] = scanN (badAt l) (fun j => [.i 0, .i 1, .i (j : Int)]) (fun j => [.i 1, .i 0, .i (j : Int)]) l.length 0 := by
    simp only [lpCk, map_decP, List.length_map]; rfl
  have hc : chkD [.l (l.map encP), .i w, .i g] = [.i (cerr l w g)] := by simp only [chkD, map_decP]
  simp only [vt99, VT.ok, Nd.holds, X.outs, X.ds, X.d, Op1.ev, Op2.ev, List.cons_append, List.nil_append, List.getD_cons_zero, List.getD_cons_succ, D.int_i, D.bool_b, D.lst_l, ite_b, ite_or, List.length_map, F19900, R19900, F99, hl, hc]
  refine ⟨fun _ => hpre, ?_⟩
  rcases scan_any (p := badAt l) (hit := fun j => [.i 0, .i 1, .i (j : Int)]) (miss := fun j => [.i 1, .i 0, .i (j : Int)]) l.length with ⟨h1, j, _, _, _, h2⟩ | ⟨h1, h2⟩
  · rw [h2]
    simp [cerr, h1]
  · rw [h2]
    simp only [takeD_zero, takeD_cons, List.getD_cons_zero, List.getD_cons_succ, D.int_i, cerr, h1, Bool.false_eq_true, if_false, arg_cond, show ((1 : Int) == 0) = false from rfl]
    by_cases ha : argBad w g = true
    · simp only [if_pos ha]
    · simp only [if_neg ha]
      by_cases h64 : 64 < l.length
      · rw [if_pos h64, if_pos (decide_eq_true (by omega))]
      · rw [if_neg h64, if_neg (by rw [decide_eq_false (by omega)]; decide)]
theorem loopM100_0 : LoopMeets Try.prog F (R L100_0.key) L100_0 lb100_0 := by
  refine loop_meets (pre := R) mixed (sgAt_all (P := Try.prog) (pre := R) (Φ := F) (l := sg100) ((fun _ h => nomatch h))) (loops_n 0 lk100_0 fun k hk => by omega) L100_0 (fun ρ => ((ρ.getD 6 default).int - (ρ.getD 7 default).int).toNat) le100_0 fun ρ _ hp => ?_
  obtain ⟨w, g, x, y, low, l, j, acc, rfl, hI, hwb⟩ : prSh ρ := hp
  have hI' := hI
  obtain ⟨_, h64, hg0, hj, hx, hy, hlow, hacc⟩ := hI'
  by_cases hlt : j < l.length
  · have hgt : (l.map encP).getD j [] = encP (l.getD j pz) := row_get pz hlt
    obtain ⟨hp, hb⟩ := shInv_at hI hlt
    have hN := shInv_new hI hlt
    have hO := shInv_on hI hlt
    have hdr := drop_at pz l hlt
    generalize hpp : l.getD j pz = p at *
    obtain ⟨a, b⟩ := p
    have hp1 : 0 ≤ a ∧ a ≤ 1048576 := hp.1
    have hp2 : 0 ≤ b ∧ b ≤ 1048576 := hp.2
    have w1 : IntKind.i64.wrap (x + a) = x + a := w64 (by omega)
    have w2 : IntKind.i64.wrap (low + g) = low + g := w64 (by omega)
    have w3 : IntKind.i64.wrap (0 + a) = a := by rw [w64 (by omega)]; omega
    have w4 : IntKind.i64.wrap (low + g + b) = low + g + b := w64 (by omega)
    have w5 : IntKind.i64.wrap (a + g) = a + g := w64 (by omega)
    have w6 : IntKind.i64.wrap (0 + (a + g)) = a + g := by rw [w64 (by omega)]; omega
    have w7 : IntKind.i64.wrap (y + b) = y + b := w64 (by omega)
    have w8 : IntKind.i64.wrap (x + (a + g)) = x + a + g := by rw [w64 (by omega)]; omega
    have w9 : IntKind.i64.wrap (x + a + g) = x + a + g := w64 (by omega)
    have len : ∀ q : Bx, decide (((acc ++ [q]).length : Int) ≤ 4398046511104) = true := fun q => decide_eq_true (by simp; omega)
    simp (disch := omega) only [rt100_0, VT.ok, Nd.holds, X.ds, X.d, Op1.ev, Op2.ev, List.getD_cons_zero, List.getD_cons_succ, D.int_i, D.bool_b, D.lst_l, ite_b, ite_and, imax, Int.toNat_natCast, List.length_map, implies_true, true_and, ↓reduceIte, dle_t, dlt_t, w64', hgt, encP, w1, w2, w3, w4, w5, w6, w7, w8, encQ_eq, cat_map, len]
    have hz : (!(((j : Nat) : Int) == 0)) = decide (0 < (j : Int)) := by
      rw [Bool.eq_iff_iff]; simp; omega
    have hz2 : ((((j + 1 : Nat) : Int)) == 0) = false := by
      rw [beq_eq_false_iff_ne]; omega
    split
    · rename_i hc
      refine round_next ⟨⟨w, g, a + g, low + g, max (low + g) (low + g + b), l, j + 1, acc ++ [(0, low + g, a, low + g + b)], rfl, hN _, hwb⟩, by show ((l.length : Int) - ((j + 1 : Nat) : Int)).toNat < ((l.length : Int) - (j : Int)).toNat; omega, ?_⟩
      show lpSh [.i w, .i g, .i (a + g), .i (low + g), .i (max (low + g) (low + g + b)), .l (l.map encP), .i (l.length : Int), .i ((j + 1 : Nat) : Int), .l ((acc ++ [(0, low + g, a, low + g + b)]).map encQ)] = lpSh [.i w, .i g, .i x, .i y, .i low, .l (l.map encP), .i (l.length : Int), .i (j : Int), .l (acc.map encQ)]
      simp only [lpSh, map_decP, map_decQ, List.length_map, Int.toNat_natCast, hdr, shelF, hz, hz2, hc, if_true]
    · rename_i hc
      refine round_next ⟨⟨w, g, x + a + g, y, max low (y + b), l, j + 1, acc ++ [(x, y, x + a, y + b)], rfl, hO _, hwb⟩, by show ((l.length : Int) - ((j + 1 : Nat) : Int)).toNat < ((l.length : Int) - (j : Int)).toNat; omega, ?_⟩
      show lpSh [.i w, .i g, .i (x + a + g), .i y, .i (max low (y + b)), .l (l.map encP), .i (l.length : Int), .i ((j + 1 : Nat) : Int), .l ((acc ++ [(x, y, x + a, y + b)]).map encQ)] = lpSh [.i w, .i g, .i x, .i y, .i low, .l (l.map encP), .i (l.length : Int), .i (j : Int), .l (acc.map encQ)]
      simp only [lpSh, map_decP, map_decQ, List.length_map, Int.toNat_natCast, hdr, shelF, hz, hz2, hc, if_false, Bool.false_eq_true]
  · have hj : j = l.length := by omega
    subst hj
    simp (disch := omega) only [rt100_0, VT.ok, X.ds, X.d, Op2.ev, List.getD_cons_zero, List.getD_cons_succ, D.int_i, D.bool_b, Bool.false_eq_true, ↓reduceIte, dlt_f]
    refine round_exit (by omega) ?_
    show lpSh [.i w, .i g, .i x, .i y, .i low, .l (l.map encP), .i (l.length : Int), .i (l.length : Int), .l (acc.map encQ)] = _
    simp only [lpSh, map_decP, map_decQ, List.length_map, Int.toNat_natCast, List.drop_length, shelF, shOut]
theorem m100 : Meets Try.prog 100 S100 (R 100) (F 100) := by
  refine meets_of_vt (pre := R) (Φ := F) mixed (sgAt_all (P := Try.prog) (pre := R) (Φ := F) (l := sg100) ((fun _ h => nomatch h))) Try.func100 b100 n100 (loops_n 1 k100 fun k hk => match k, hk with | 0, _ => loop_this lf100_0 loopM100_0) e100 fun ds _ hp => ?_
  obtain ⟨l, w, g, rfl, h1, h2, h3, h4⟩ : shPre ds := hp
  have hpre : prSh [.i w, .i g, .i 0, .i 0, .i 0, .l (l.map encP), .i (l.length : Int), .i 0, .l []] := ⟨w, g, 0, 0, 0, l, 0, [], rfl, ⟨h1, h2, h3, by omega, by omega, by omega, by omega, rfl⟩, h4⟩
  have hl : lpSh [.i w, .i g, .i 0, .i 0, .i 0, .l (l.map encP), .i (l.length : Int), .i 0, .l []] = shOut l.length (shelF w g true 0 0 0 [] l) := by
    simp only [lpSh, map_decP, List.length_map]; rfl
  simp only [vt100, VT.ok, Nd.holds, X.outs, X.ds, X.d, Op1.ev, takeD_zero, takeD_cons, List.cons_append, List.nil_append, List.getD_cons_zero, List.getD_cons_succ, D.bool_b, D.lst_l, List.length_map, F20000, R20000, F100, hl, shOut, shD, map_decP]
  exact ⟨fun _ => hpre, rfl⟩
theorem loopM101_0 : LoopMeets Try.prog F (R L101_0.key) L101_0 lb101_0 := by
  refine loop_meets (pre := R) mixed (sgAt_all (P := Try.prog) (pre := R) (Φ := F) (l := sg101) ((fun _ h => nomatch h))) (loops_n 0 lk101_0 fun k hk => by omega) L101_0 (fun ρ => ((ρ.getD 2 default).int - (ρ.getD 3 default).int).toNat) le101_0 fun ρ _ hp => ?_
  obtain ⟨n, l, j, rfl, hj, hm⟩ : prEx ρ := hp
  rw [maxLen_val] at hm
  by_cases hlt : j < l.length
  · have hdr := drop_at z4 l hlt
    simp (disch := omega) only [rt101_0, VT.ok, Nd.holds, X.ds, X.d, Op1.ev, Op2.ev, List.getD_cons_zero, List.getD_cons_succ, D.int_i, D.bool_b, D.lst_l, imax, Int.toNat_natCast, List.length_map, implies_true, true_and, ↓reduceIte, dle_t, dlt_t, w64', rowQz, encQ]
    refine round_next ⟨⟨ext1 n (l.getD j z4), l, j + 1, rfl, by omega, hm⟩, by show ((l.length : Int) - ((j + 1 : Nat) : Int)).toNat < ((l.length : Int) - (j : Int)).toNat; omega, ?_⟩
    show lpEx [.i (ext1 n (l.getD j z4)), .l (l.map encQ), .i (l.length : Int), .i ((j + 1 : Nat) : Int)] = lpEx [.i n, .l (l.map encQ), .i (l.length : Int), .i (j : Int)]
    simp only [lpEx, map_decQ, List.length_map, Int.toNat_natCast, hdr, List.foldl_cons]
  · have hj : j = l.length := by omega
    subst hj
    simp (disch := omega) only [rt101_0, VT.ok, X.ds, X.d, Op2.ev, List.getD_cons_zero, List.getD_cons_succ, D.int_i, D.bool_b, Bool.false_eq_true, ↓reduceIte, dlt_f]
    refine round_exit (by omega) ?_
    show lpEx [.i n, .l (l.map encQ), .i (l.length : Int), .i (l.length : Int)] = _
    simp only [lpEx, map_decQ, List.length_map, Int.toNat_natCast, List.drop_length, List.foldl_nil]
theorem m101 : Meets Try.prog 101 S101 (R 101) (F 101) := by
  refine meets_of_vt (pre := R) (Φ := F) mixed (sgAt_all (P := Try.prog) (pre := R) (Φ := F) (l := sg101) ((fun _ h => nomatch h))) Try.func101 b101 n101 (loops_n 1 k101 fun k hk => match k, hk with | 0, _ => loop_this lf101_0 loopM101_0) e101 fun ds _ hp => ?_
  obtain ⟨l, rfl, hm⟩ : extPre ds := hp
  have hpre : prEx [.i 0, .l (l.map encQ), .i (l.length : Int), .i 0] := ⟨0, l, 0, rfl, by omega, hm⟩
  have hl : lpEx [.i 0, .l (l.map encQ), .i (l.length : Int), .i 0] = [.i 0, .i (exts l), .i (l.length : Int)] := by
    simp only [lpEx, map_decQ, List.length_map]; rfl
  simp only [vt101, VT.ok, Nd.holds, X.outs, X.ds, X.d, Op1.ev, takeD_zero, takeD_cons, List.cons_append, List.nil_append, List.getD_cons_zero, List.getD_cons_succ, D.bool_b, D.lst_l, List.length_map, and_true, F20100, R20100, F101, hl, extD, map_decQ]
  exact fun _ => hpre
end Go.Proofs.Ytindllmeeckfcaa.rv
namespace Go.Proofs.Ytindllmeeckfcaa.rv
set_option maxRecDepth 10000
open Go.RV
theorem nat_z (j : Nat) : (((j : Nat) : Int) == 0) = (j == 0) := by
  rw [Bool.eq_iff_iff]; simp
theorem loopM78_0 : LoopMeets Try.prog F (R L78_0.key) L78_0 lb78_0 := by
  refine loop_meets (pre := R) mixed (sgAt_all (P := Try.prog) (pre := R) (Φ := F) (l := sg78) (List.forall_mem_cons.2 ⟨Meets.at (pre := R) (Φ := F) m99, List.forall_mem_cons.2 ⟨Meets.at (pre := R) (Φ := F) m100, List.forall_mem_cons.2 ⟨Meets.at (pre := R) (Φ := F) m101, (fun _ h => nomatch h)⟩⟩⟩)) (loops_n 0 lk78_0 fun k hk => by omega) L78_0 (fun ρ => ((ρ.getD 5 default).int - (ρ.getD 6 default).int).toNat) le78_0 fun ρ _ hp => ?_
  obtain ⟨l, g, w, j, b, rfl, hI⟩ : prBe ρ := hp
  have hI' := hI
  obtain ⟨hs, h64, hg0, hj, hw0, hb64⟩ := hI'
  by_cases hlt : j < l.length
  · have hgt : (l.map encP).getD j [] = encP (l.getD j pz) := row_get pz hlt
    have hdr := drop_at pz l hlt
    have hat := beInv_at hI hlt
    have w1 : IntKind.i64.wrap (g + (l.getD j pz).1) = g + (l.getD j pz).1 := w64 (by omega)
    have w2 : IntKind.i64.wrap (w + (g + (l.getD j pz).1)) = w + (g + (l.getD j pz).1) := w64 (by omega)
    have hsh : ∀ v, shD [.l (l.map encP), .i v, .i g] = [.l ((shel v g l).map encQ)] := fun v => by simp only [shD, map_decP]
    have hex : ∀ q : List Bx, extD [.l (q.map encQ)] = [.i (exts q)] := fun q => by simp only [extD, map_decQ]
    simp (disch := omega) only [rt78_0, VT.ok, Nd.holds, X.outs, X.ds, X.d, Op1.ev, Op2.ev, takeD_zero, takeD_cons, List.cons_append, List.nil_append, List.getD_cons_zero, List.getD_cons_succ, D.int_i, D.bool_b, D.lst_l, ite_b, ite_or, Int.toNat_natCast, List.length_map, implies_true, true_and, F100, R100, F101, R101, ↓reduceIte, dle_t, dlt_t, w64', hgt, encP, w1, w2, hsh, hex, nat_z]
    have hl64 : (shel (w + (g + (l.getD j pz).1)) g l).length ≤ 64 := by rw [shel_len]; exact h64
    have hml : (shel (w + (g + (l.getD j pz).1)) g l).length ≤ maxLen := by rw [maxLen_val]; omega
    have hbl : b.length ≤ maxLen := by rw [maxLen_val]; omega
    refine ⟨fun _ => ⟨l, _, g, rfl, hs, h64, hg0, by omega⟩, fun _ => ⟨_, rfl, hml⟩, fun _ => ⟨_, rfl, hbl⟩, ?_⟩
    have key : ∀ b' : List Bx, b'.length ≤ 64 → (if (j == 0) = true ∨ exts (shel (w + (g + (l.getD j pz).1)) g l) < exts b then shel (w + (g + (l.getD j pz).1)) g l else b) = b' → RoundOk F (R L78_0.key) (fun ρ => ((ρ.getD 5 default).int - (ρ.getD 6 default).int).toNat) L78_0 [.l (l.map encP), .i g, .l (b.map encQ), .i w, .l (l.map encP), .i (l.length : Int), .i (j : Int)] [.i (-1), .l (b'.map encQ), .i (w + (g + (l.getD j pz).1)), .i ((j + 1 : Nat) : Int)] := by
      intro b' hb' he
      refine round_next ⟨⟨l, g, _, j + 1, b', rfl, beInv_next hI hlt hb'⟩, ?_, ?_⟩
      · show ((l.length : Int) - ((j + 1 : Nat) : Int)).toNat < ((l.length : Int) - (j : Int)).toNat
        omega
      · show lpBe [.l (l.map encP), .i g, .l (b'.map encQ), .i (w + (g + (l.getD j pz).1)), .l (l.map encP), .i (l.length : Int), .i ((j + 1 : Nat) : Int)] = lpBe [.l (l.map encP), .i g, .l (b.map encQ), .i w, .l (l.map encP), .i (l.length : Int), .i (j : Int)]
        simp only [lpBe, map_decP, map_decQ, Int.toNat_natCast, hdr, bstF, he]
    split
    · rename_i hc
      exact key _ hl64 (if_pos (by simpa using hc))
    · rename_i hc
      exact key _ hb64 (if_neg (by simpa using hc))
  · have hj : j = l.length := by omega
    subst hj
    simp (disch := omega) only [rt78_0, VT.ok, X.ds, X.d, Op2.ev, List.getD_cons_zero, List.getD_cons_succ, D.int_i, D.bool_b, Bool.false_eq_true, ↓reduceIte, dlt_f]
    refine round_exit (by omega) ?_
    show lpBe [.l (l.map encP), .i g, .l (b.map encQ), .i w, .l (l.map encP), .i (l.length : Int), .i (l.length : Int)] = _
    simp only [lpBe, map_decP, map_decQ, Int.toNat_natCast, List.drop_length, bstF]
theorem m78 : Meets Try.prog 78 S78 (R 78) (F 78) := by
  refine meets_of_vt (pre := R) (Φ := F) mixed (sgAt_all (P := Try.prog) (pre := R) (Φ := F) (l := sg78) (List.forall_mem_cons.2 ⟨Meets.at (pre := R) (Φ := F) m99, List.forall_mem_cons.2 ⟨Meets.at (pre := R) (Φ := F) m100, List.forall_mem_cons.2 ⟨Meets.at (pre := R) (Φ := F) m101, (fun _ h => nomatch h)⟩⟩⟩)) Try.func78 b78 n78 (loops_n 1 k78 fun k hk => match k, hk with | 0, _ => loop_this lf78_0 loopM78_0) e78 fun ds _ hp => ?_
  obtain ⟨l, g, rfl, hm⟩ : bestPre ds := hp
  have hc : chkD [.l (l.map encP), .i 0, .i g] = [.i (cerr l 0 g)] := by simp only [chkD, map_decP]
  have hl : ∀ v, lpBe [.l (l.map encP), .i g, .l [], .i v, .l (l.map encP), .i (l.length : Int), .i 0] = [.i 0, .l ((bstF l g [] v 0 l).1.map encQ), .i (bstF l g [] v 0 l).2, .i (l.length : Int)] := by
    intro v
    simp only [lpBe, map_decP]; rfl
  simp only [vt78, VT.ok, Nd.holds, X.outs, X.ds, X.d, Op1.ev, Op2.ev, takeD_zero, takeD_cons, List.cons_append, List.nil_append, List.getD_cons_zero, List.getD_cons_succ, D.int_i, D.bool_b, D.lst_l, List.length_map, F99, R99, F17800, R17800, F78, hc, hl, bestD, map_decP]
  refine ⟨fun _ => ⟨l, 0, g, rfl, hm⟩, ?_⟩
  by_cases h0 : cerr l 0 g = 0
  · have hb : (!(cerr l 0 g == 0)) = false := by simp [h0]
    obtain ⟨o1, o2, o3, o4⟩ := cerr_ok h0
    have w1 : IntKind.i64.wrap (0 - g) = -g := by rw [w64 (by omega)]; omega
    simp only [h0, if_true, w1]
    exact ⟨fun _ => ⟨l, g, -g, 0, [], rfl, o1, o4, o3, by omega, by omega, by simp⟩, rfl⟩
  · have hb : (!(cerr l 0 g == 0)) = true := by simp [h0]
    simp only [hb, if_true, h0, if_false]
    rfl
end Go.Proofs.Ytindllmeeckfcaa.rv
