/-
  The functions of the program as they are run: printed by program.
-/
import Derived.Test.YtjdhicmkkmfcgaaRvUse
import Derived.Test.YtjdhicmkkmfcgaaRvPfn
import Derived.Test.YtjdhicmkkmfcgaaChecked
namespace Go.Proofs.Ytjdhicmkkmfcgaa.rv
open Go.RV
set_option maxRecDepth 100000
theorem mixed : Try.prog.follows .mixedOrders = true := by kernel_rfl
/-! ### function values -/
def S20049 : Sig := ⟨[(false, [.clo]), (true, [.str, .str, (.int .i64), (.int .i64), (.int .i64), (.sl 74 [.str, (.int .i64)])])], [(false, [.bool])], [], none⟩
def S69049 : Sig := ⟨[(false, [.clo]), (true, [.str, .str, (.int .i64), (.int .i64), (.int .i64), (.sl 74 [.str, (.int .i64)])]), (true, [.str, .str, (.int .i64), (.int .i64), (.int .i64), (.sl 74 [.str, (.int .i64)])])], [(false, [.bool])], [], none⟩
def S20051 : Sig := ⟨[(false, [.clo]), (true, [.str, (.int .i64)])], [(false, [.bool])], [], none⟩
def S20075 : Sig := ⟨[(false, [.clo]), (true, [.str, (.int .i64)])], [(false, [.bool])], [], none⟩
/-! ### 7 -/
def S7 : Sig := ⟨[(true, [.str, .bool, (.sl 48 [.str, .str, (.int .i64), (.int .i64), (.int .i64), (.sl 74 [.str, (.int .i64)])]), (.sl 56 [(.int .i64), (.int .i64), (.int .i64), (.int .i64), .str, (.int .i64), (.int .i64)]), (.sl 50 [.str, (.int .i64)])])], [(false, [.bool])], [], none⟩
noncomputable def c7 : Code := Try.f7.body.getD .skip
theorem b7 : Try.f7.body = some c7 := body_some (by kernel_rfl)
theorem n7 : (Try.f7.name == "runtime.NumGoroutine") = false := by kernel_rfl
def sg7 : List (FuncId × Sig) := []
def L7_0 : LoopSig := ⟨10700, [],
   ⟨[.any, (.c (.ptr 0 0)), (.c (.x .bool (.var 0))), (.c (.x (.int .i64) (.var 1))), .any, .any, .any, .any, .any, .any, .any, .any, .any, .any, .any, .any, .any, .any, .any, .any, .any, .any, .any, .any, .any, .any, .any, .any, .any, .any, .any, .any, .any, .any, .any, .any, .any, .any, .any, .any, .any, .any, .any, .any, .any, .any, .any, .any, .any, .any, .any, .any, .any, .any, .any, .any, .any, .any, .any, .any, .any],
    [some ⟨(.t true), (.box 26 [(.x .str (.var 2)), (.x .bool (.var 3)), (.x (.sl 48 [.str, .str, (.int .i64), (.int .i64), (.int .i64), (.sl 74 [.str, (.int .i64)])]) (.var 4)), (.x (.sl 56 [(.int .i64), (.int .i64), (.int .i64), (.int .i64), .str, (.int .i64), (.int .i64)]) (.var 5)), (.x (.sl 50 [.str, (.int .i64)]) (.var 6))] false)⟩]⟩,
   7, [0, 1], [26, 27, 28, 29, 30, 33, 34, 35, 36, 37, 38, 39, 40, 41, 42, 43, 44, 45, 46, 47, 48, 49, 50, 51, 52, 53, 54, 55, 56, 57, 58, 59, 60, 2, 31, 32, 3], [.ret, (.exit 0)], []⟩
def lt7 : List (Nat × LoopSig) := [(4, L7_0)]
theorem k7 : (Code.loops c7).length = 1 := by kernel_rfl
noncomputable def lb7_0 : Code := (Code.loops c7).getD 0 .skip
def rt7_0 : VT :=
  (.ite (.bin .lt (.var 1) (.un .len (.var 4)))
   (.need (.t true) (.c (.bin .le (.n 0) (.var 1)))
   (.ite (.ite (.ite (.bin .lt (.n 50) (.un .slen (.sel 0 (.var 4) (.var 1)))) (.t true) (.bin .lt (.n 100) (.un .slen (.sel 1 (.var 4) (.var 1))))) (.t true) (.bin .lt (.n 20) (.un .len (.sel 5 (.var 4) (.var 1)))))
    (.ret (.cons (.n 0) (.cons (.t false) (.cons (.var 1) .nil))))
    (.ret (.cons (.n (-1)) (.cons (.var 0) (.cons (.bin (.add .i64) (.var 1) (.n 1)) .nil))))))
   (.ret (.cons (.n 1) (.cons (.var 0) (.cons (.var 1) .nil)))))
theorem le7_0 : (loopVT Try.prog (sgOf sg7) (ltOf lt7) L7_0 lb7_0).slim L7_0.nv [] = rt7_0 := by kernel_rfl
theorem lf7_0 : (firstRegion lb7_0).bind (ltOf lt7) = some L7_0 := by kernel_rfl
theorem lk7_0 : (Code.loops lb7_0).length = 0 := by kernel_rfl
def vt7 : VT :=
  (.ite (.ite (.ite (.ite (.bin .lt (.n 100) (.un .len (.var 2))) (.t true) (.bin .lt (.n 300) (.un .len (.var 3)))) (.t true) (.bin .lt (.n 30) (.un .len (.var 4)))) (.t true) (.bin .lt (.n 50) (.un .slen (.var 0))))
   (.ret (.cons (.t false) .nil))
   (.need (.t true) (.pre 10700 (.cons (.t false) (.cons (.n 0) (.cons (.var 0) (.cons (.var 1) (.cons (.var 2) (.cons (.var 3) (.cons (.var 4) .nil))))))))
   (.lt (.app 10700 (.cons (.t false) (.cons (.n 0) (.cons (.var 0) (.cons (.var 1) (.cons (.var 2) (.cons (.var 3) (.cons (.var 4) .nil))))))) 0) 3
   (.ite (.bin .eq (.var 5) (.n 0))
    (.ret (.cons (.var 6) .nil))
    (.ret (.cons (.t true) .nil))))))
theorem e7 : (fnVT Try.prog (sgOf sg7) (ltOf lt7) S7 Try.f7 c7).slim (S7.ps.map fun p => p.2.length).sum [] = vt7 := by kernel_rfl

/-! ### 26 -/
def S26 : Sig := ⟨[], [(true, [.str, .bool, (.sl 48 [.str, .str, (.int .i64), (.int .i64), (.int .i64), (.sl 74 [.str, (.int .i64)])]), (.sl 56 [(.int .i64), (.int .i64), (.int .i64), (.int .i64), .str, (.int .i64), (.int .i64)]), (.sl 50 [.str, (.int .i64)])])], [], none⟩
noncomputable def c26 : Code := Try.f26.body.getD .skip
theorem b26 : Try.f26.body = some c26 := body_some (by kernel_rfl)
theorem n26 : (Try.f26.name == "runtime.NumGoroutine") = false := by kernel_rfl
def sg26 : List (FuncId × Sig) := []
def lt26 : List (Nat × LoopSig) := []
theorem k26 : (Code.loops c26).length = 0 := by kernel_rfl
def vt26 : VT :=
  (.ret (.cons (.str ⟨#[103]⟩) (.cons (.t false) (.cons (.lcons (.cons (.str ⟨#[120]⟩) (.cons (.str ⟨#[]⟩) (.cons (.n 1) (.cons (.n 1) (.cons (.n 0) (.cons .lnil .nil)))))) (.lcons (.cons (.str ⟨#[121]⟩) (.cons (.str ⟨#[]⟩) (.cons (.n 1) (.cons (.n 1) (.cons (.n 1) (.cons .lnil .nil)))))) .lnil)) (.cons (.lcons (.cons (.n 0) (.cons (.n 1) (.cons (.n (-1)) (.cons (.n (-1)) (.cons (.str ⟨#[]⟩) (.cons (.n 1) (.cons (.n 1) .nil))))))) .lnil) (.cons (.lcons (.cons (.str ⟨#[99]⟩) (.cons (.n (-1)) .nil)) (.lcons (.cons (.str ⟨#[100]⟩) (.cons (.n 0) .nil)) .lnil)) .nil))))))
theorem e26 : (fnVT Try.prog (sgOf sg26) (ltOf lt26) S26 Try.f26 c26).slim (S26.ps.map fun p => p.2.length).sum [] = vt26 := by kernel_rfl
def T26 : FuncId → List D → List D := tabOf []
def fn26 (ρ : List D) : List D := vt26.val T26 ρ
theorem m26 : Meets Try.prog 26 S26 (fun _ => True) fn26 := meets_easy (sgl := sg26) (Φ := T26) mixed ((fun _ h => nomatch h)) Try.func26 b26 n26 k26 e26 (by kernel_rfl)

/-! ### 14 -/
def S14 : Sig := ⟨[(true, [.str, .bool, (.sl 48 [.str, .str, (.int .i64), (.int .i64), (.int .i64), (.sl 74 [.str, (.int .i64)])]), (.sl 56 [(.int .i64), (.int .i64), (.int .i64), (.int .i64), .str, (.int .i64), (.int .i64)]), (.sl 50 [.str, (.int .i64)])])], [(true, [(.int .i64), (.sl 61 [(.int .i64), (.int .i64)])])], [], none⟩
noncomputable def c14 : Code := Try.f14.body.getD .skip
theorem b14 : Try.f14.body = some c14 := body_some (by kernel_rfl)
theorem n14 : (Try.f14.name == "runtime.NumGoroutine") = false := by kernel_rfl
def sg14 : List (FuncId × Sig) := []
def L14_0 : LoopSig := ⟨11400, [(1, some 1, 61), (2, some 1, 61)],
   ⟨[.any, .any, .any, (.c (.ptr 2 0)), .any, .any, .any, .any, .any, .any, .any, (.c (.x (.sl 56 [(.int .i64), (.int .i64), (.int .i64), (.int .i64), .str, (.int .i64), (.int .i64)]) (.var 0))), (.c (.x (.int .i64) (.var 1))), (.c (.x (.int .i64) (.var 2))), .any, .any, .any, .any, .any, .any, .any, .any, .any, .any, .any, .any, .any, .any, .any],
    [none, none, some ⟨(.t true), (.box 35 [(.x (.int .i64) (.var 3)), (.row 4 1)] false)⟩, none, some ⟨(.t true), (.row 61 [(.int .i64), (.int .i64)] (.var 4) 1 false)⟩]⟩,
   5, [2, 4], [14, 15, 16, 5, 17, 18, 19, 20, 21, 22, 23, 24, 25, 26, 27, 13], [(.exit 0)], [4]⟩
def lt14 : List (Nat × LoopSig) := [(3, L14_0)]
theorem k14 : (Code.loops c14).length = 1 := by kernel_rfl
noncomputable def lb14_0 : Code := (Code.loops c14).getD 0 .skip
def rt14_0 : VT :=
  (.ite (.bin .lt (.var 2) (.var 1))
   (.need (.t true) (.c (.bin .le (.n 0) (.var 2)))
   (.need (.t true) (.c (.bin .lt (.var 2) (.un .len (.var 0))))
   (.need (.t true) (.c (.bin .le (.un .len (.bin .cat (.var 4) (.lcons (.cons (.sel 0 (.var 0) (.var 2)) (.cons (.sel 1 (.var 0) (.var 2)) .nil)) .lnil))) (.n 8796093022208)))
   (.ret (.cons (.n (-1)) (.cons (.bin (.add .i64) (.var 2) (.n 1)) (.cons (.bin .cat (.var 4) (.lcons (.cons (.sel 0 (.var 0) (.var 2)) (.cons (.sel 1 (.var 0) (.var 2)) .nil)) .lnil)) .nil)))))))
   (.ret (.cons (.n 0) (.cons (.var 2) (.cons (.var 4) .nil)))))
theorem le14_0 : (loopVT Try.prog (sgOf sg14) (ltOf lt14) L14_0 lb14_0).slim L14_0.nv [] = rt14_0 := by kernel_rfl
theorem lf14_0 : (firstRegion lb14_0).bind (ltOf lt14) = some L14_0 := by kernel_rfl
theorem lk14_0 : (Code.loops lb14_0).length = 0 := by kernel_rfl
def vt14 : VT :=
  (.need (.t true) (.pre 11400 (.cons (.var 3) (.cons (.un .len (.var 3)) (.cons (.n 0) (.cons (.un .len (.var 2)) (.cons .lnil .nil))))))
  (.lt (.app 11400 (.cons (.var 3) (.cons (.un .len (.var 3)) (.cons (.n 0) (.cons (.un .len (.var 2)) (.cons .lnil .nil))))) 0) 3
  (.ret (.cons (.un .len (.var 2)) (.cons (.var 7) .nil)))))
theorem e14 : (fnVT Try.prog (sgOf sg14) (ltOf lt14) S14 Try.f14 c14).slim (S14.ps.map fun p => p.2.length).sum [] = vt14 := by kernel_rfl

/-! ### 60 -/
def S60 : Sig := ⟨[(false, [(.int .u8)])], [(false, [.bool])], [], none⟩
noncomputable def c60 : Code := Try.f60.body.getD .skip
theorem b60 : Try.f60.body = some c60 := body_some (by kernel_rfl)
theorem n60 : (Try.f60.name == "runtime.NumGoroutine") = false := by kernel_rfl
def sg60 : List (FuncId × Sig) := []
def lt60 : List (Nat × LoopSig) := []
theorem k60 : (Code.loops c60).length = 0 := by kernel_rfl
def vt60 : VT :=
  (.ret (.cons (.ite (.ite (.ite (.bin .le (.n 97) (.var 0)) (.bin .le (.var 0) (.n 122)) (.t false)) (.t true) (.ite (.bin .le (.n 65) (.var 0)) (.bin .le (.var 0) (.n 90)) (.t false))) (.t true) (.bin .eq (.var 0) (.n 95))) .nil))
theorem e60 : (fnVT Try.prog (sgOf sg60) (ltOf lt60) S60 Try.f60 c60).slim (S60.ps.map fun p => p.2.length).sum [] = vt60 := by kernel_rfl
def T60 : FuncId → List D → List D := tabOf []
def fn60 (ρ : List D) : List D := vt60.val T60 ρ
theorem m60 : Meets Try.prog 60 S60 (fun _ => True) fn60 := meets_easy (sgl := sg60) (Φ := T60) mixed ((fun _ h => nomatch h)) Try.func60 b60 n60 k60 e60 (by kernel_rfl)

/-! ### 61 -/
def S61 : Sig := ⟨[(false, [(.int .u8)])], [(false, [.bool])], [], none⟩
noncomputable def c61 : Code := Try.f61.body.getD .skip
theorem b61 : Try.f61.body = some c61 := body_some (by kernel_rfl)
theorem n61 : (Try.f61.name == "runtime.NumGoroutine") = false := by kernel_rfl
def sg61 : List (FuncId × Sig) := []
def lt61 : List (Nat × LoopSig) := []
theorem k61 : (Code.loops c61).length = 0 := by kernel_rfl
def vt61 : VT :=
  (.ret (.cons (.ite (.bin .le (.n 48) (.var 0)) (.bin .le (.var 0) (.n 57)) (.t false)) .nil))
theorem e61 : (fnVT Try.prog (sgOf sg61) (ltOf lt61) S61 Try.f61 c61).slim (S61.ps.map fun p => p.2.length).sum [] = vt61 := by kernel_rfl
def T61 : FuncId → List D → List D := tabOf []
def fn61 (ρ : List D) : List D := vt61.val T61 ρ
theorem m61 : Meets Try.prog 61 S61 (fun _ => True) fn61 := meets_easy (sgl := sg61) (Φ := T61) mixed ((fun _ h => nomatch h)) Try.func61 b61 n61 k61 e61 (by kernel_rfl)

/-! ### 47 -/
def S47 : Sig := ⟨[(false, [.str])], [(false, [(.int .i64)])], [], none⟩
noncomputable def c47 : Code := Try.f47.body.getD .skip
theorem b47 : Try.f47.body = some c47 := body_some (by kernel_rfl)
theorem n47 : (Try.f47.name == "runtime.NumGoroutine") = false := by kernel_rfl
def sg47 : List (FuncId × Sig) := [(60, S60), (61, S61)]
def L47_0 : LoopSig := ⟨14700, [],
   ⟨[(.c (.x .str (.var 0))), .any, .any, (.c (.x (.int .i64) (.var 1))), .any, .any, .any, .any, .any, .any, .any, .any, .any, .any, .any, .any, .any, .any, .any, .any, .any, .any, .any, .any, .any, .any, .any],
    []⟩,
   2, [1], [4, 5, 6, 7, 8, 9, 10, 11, 12, 13, 14, 15, 16, 17, 18, 19, 20, 21, 22, 23, 24, 25, 3], [(.exit 0)], []⟩
def lt47 : List (Nat × LoopSig) := [(2, L47_0)]
theorem k47 : (Code.loops c47).length = 1 := by kernel_rfl
noncomputable def lb47_0 : Code := (Code.loops c47).getD 0 .skip
def rt47_0 : VT :=
  (.need (.bin .lt (.var 1) (.un .slen (.var 0))) (.c (.bin .le (.n 0) (.var 1)))
  (.need (.bin .lt (.var 1) (.un .slen (.var 0))) (.c (.bin .lt (.var 1) (.un .slen (.var 0))))
  (.need (.bin .lt (.var 1) (.un .slen (.var 0))) (.pre 60 (.cons (.bin .sidx (.var 0) (.var 1)) .nil))
  (.lt (.app 60 (.cons (.bin .sidx (.var 0) (.var 1)) .nil) 0) 1
  (.need (.ite (.ite (.bin .lt (.var 1) (.un .slen (.var 0))) (.un .not (.var 2)) (.t false)) (.bin .lt (.n 0) (.var 1)) (.t false)) (.c (.bin .le (.n 0) (.var 1)))
  (.need (.ite (.ite (.bin .lt (.var 1) (.un .slen (.var 0))) (.un .not (.var 2)) (.t false)) (.bin .lt (.n 0) (.var 1)) (.t false)) (.c (.bin .lt (.var 1) (.un .slen (.var 0))))
  (.need (.ite (.ite (.bin .lt (.var 1) (.un .slen (.var 0))) (.un .not (.var 2)) (.t false)) (.bin .lt (.n 0) (.var 1)) (.t false)) (.pre 61 (.cons (.bin .sidx (.var 0) (.var 1)) .nil))
  (.lt (.app 61 (.cons (.bin .sidx (.var 0) (.var 1)) .nil) 0) 1
  (.ite (.ite (.bin .lt (.var 1) (.un .slen (.var 0))) (.ite (.var 2) (.t true) (.ite (.bin .lt (.n 0) (.var 1)) (.var 3) (.t false))) (.t false))
   (.ret (.cons (.n (-1)) (.cons (.bin (.add .i64) (.var 1) (.n 1)) .nil)))
   (.ret (.cons (.n 0) (.cons (.var 1) .nil))))))))))))
theorem le47_0 : (loopVT Try.prog (sgOf sg47) (ltOf lt47) L47_0 lb47_0).slim L47_0.nv [] = rt47_0 := by kernel_rfl
theorem lf47_0 : (firstRegion lb47_0).bind (ltOf lt47) = some L47_0 := by kernel_rfl
theorem lk47_0 : (Code.loops lb47_0).length = 0 := by kernel_rfl
def vt47 : VT :=
  (.need (.t true) (.pre 14700 (.cons (.var 0) (.cons (.n 0) .nil)))
  (.lt (.app 14700 (.cons (.var 0) (.cons (.n 0) .nil)) 0) 2
  (.ret (.cons (.var 2) .nil))))
theorem e47 : (fnVT Try.prog (sgOf sg47) (ltOf lt47) S47 Try.f47 c47).slim (S47.ps.map fun p => p.2.length).sum [] = vt47 := by kernel_rfl

/-! ### 48 -/
def S48 : Sig := ⟨[(false, [.str])], [(false, [.bool])], [], none⟩
noncomputable def c48 : Code := Try.f48.body.getD .skip
theorem b48 : Try.f48.body = some c48 := body_some (by kernel_rfl)
theorem n48 : (Try.f48.name == "runtime.NumGoroutine") = false := by kernel_rfl
def sg48 : List (FuncId × Sig) := []
def lt48 : List (Nat × LoopSig) := []
theorem k48 : (Code.loops c48).length = 0 := by kernel_rfl
def vt48 : VT :=
  (.ite (.bin .seq (.var 0) (.str ⟨#[100, 105, 103, 114, 97, 112, 104]⟩))
   (.ret (.cons (.t true) .nil))
   (.ite (.bin .seq (.var 0) (.str ⟨#[103, 114, 97, 112, 104]⟩))
    (.ret (.cons (.t true) .nil))
    (.ite (.bin .seq (.var 0) (.str ⟨#[110, 111, 100, 101]⟩))
     (.ret (.cons (.t true) .nil))
     (.ite (.bin .seq (.var 0) (.str ⟨#[101, 100, 103, 101]⟩))
      (.ret (.cons (.t true) .nil))
      (.ite (.bin .seq (.var 0) (.str ⟨#[115, 101, 116]⟩))
       (.ret (.cons (.t true) .nil))
       (.ite (.bin .seq (.var 0) (.str ⟨#[99, 108, 117, 115, 116, 101, 114]⟩))
        (.ret (.cons (.t true) .nil))
        (.ret (.cons (.t false) .nil))))))))
theorem e48 : (fnVT Try.prog (sgOf sg48) (ltOf lt48) S48 Try.f48 c48).slim (S48.ps.map fun p => p.2.length).sum [] = vt48 := by kernel_rfl
def T48 : FuncId → List D → List D := tabOf []
def fn48 (ρ : List D) : List D := vt48.val T48 ρ
theorem m48 : Meets Try.prog 48 S48 (fun _ => True) fn48 := meets_easy (sgl := sg48) (Φ := T48) mixed ((fun _ h => nomatch h)) Try.func48 b48 n48 k48 e48 (by kernel_rfl)

/-! ### 27 -/
def S27 : Sig := ⟨[(false, [.str])], [(false, [.bool])], [], none⟩
noncomputable def c27 : Code := Try.f27.body.getD .skip
theorem b27 : Try.f27.body = some c27 := body_some (by kernel_rfl)
theorem n27 : (Try.f27.name == "runtime.NumGoroutine") = false := by kernel_rfl
def sg27 : List (FuncId × Sig) := [(47, S47), (48, S48)]
def lt27 : List (Nat × LoopSig) := []
theorem k27 : (Code.loops c27).length = 0 := by kernel_rfl
def vt27 : VT :=
  (.need (.ite (.un .not (.bin .seq (.var 0) (.str ⟨#[]⟩))) (.bin .le (.un .slen (.var 0)) (.n 16)) (.t false)) (.pre 47 (.cons (.var 0) .nil))
  (.lt (.app 47 (.cons (.var 0) .nil) 0) 1
  (.need (.ite (.ite (.un .not (.bin .seq (.var 0) (.str ⟨#[]⟩))) (.bin .le (.un .slen (.var 0)) (.n 16)) (.t false)) (.bin .eq (.var 1) (.un .slen (.var 0))) (.t false)) (.pre 48 (.cons (.var 0) .nil))
  (.lt (.app 48 (.cons (.var 0) .nil) 0) 1
  (.ret (.cons (.ite (.ite (.ite (.un .not (.bin .seq (.var 0) (.str ⟨#[]⟩))) (.bin .le (.un .slen (.var 0)) (.n 16)) (.t false)) (.bin .eq (.var 1) (.un .slen (.var 0))) (.t false)) (.un .not (.var 2)) (.t false)) .nil))))))
theorem e27 : (fnVT Try.prog (sgOf sg27) (ltOf lt27) S27 Try.f27 c27).slim (S27.ps.map fun p => p.2.length).sum [] = vt27 := by kernel_rfl

/-! ### 36 -/
def S36 : Sig := ⟨[(true, [.str, .str, (.int .i64), (.int .i64), (.int .i64), (.sl 74 [.str, (.int .i64)])]), (false, [(.pt [.str])])], [(false, [.bool])], [], none⟩
noncomputable def c36 : Code := Try.f36.body.getD .skip
theorem b36 : Try.f36.body = some c36 := body_some (by kernel_rfl)
theorem n36 : (Try.f36.name == "runtime.NumGoroutine") = false := by kernel_rfl
def sg36 : List (FuncId × Sig) := []
def lt36 : List (Nat × LoopSig) := []
theorem k36 : (Code.loops c36).length = 0 := by kernel_rfl
def vt36 : VT :=
  (.ret (.cons (.bin .seq (.var 0) (.psel 0 (.var 6))) .nil))
theorem e36 : (fnVT Try.prog (sgOf sg36) (ltOf lt36) S36 Try.f36 c36).slim (S36.ps.map fun p => p.2.length).sum [] = vt36 := by kernel_rfl
def T36 : FuncId → List D → List D := tabOf []
def fn36 (ρ : List D) : List D := vt36.val T36 ρ
theorem m36 : Meets Try.prog 36 S36 (fun _ => True) fn36 := meets_easy (sgl := sg36) (Φ := T36) mixed ((fun _ h => nomatch h)) Try.func36 b36 n36 k36 e36 (by kernel_rfl)

/-! ### 35 -/
def S35 : Sig := ⟨[(false, [(.sl 48 [.str, .str, (.int .i64), (.int .i64), (.int .i64), (.sl 74 [.str, (.int .i64)])])]), (false, [.clo])], [(false, [(.int .i64)])], [], none⟩
noncomputable def c35 : Code := Try.f35.body.getD .skip
theorem b35 : Try.f35.body = some c35 := body_some (by kernel_rfl)
theorem n35 : (Try.f35.name == "runtime.NumGoroutine") = false := by kernel_rfl
def sg35 : List (FuncId × Sig) := [(20049, S20049)]
def L35_0 : LoopSig := ⟨13500, [],
   ⟨[(.c (.x (.sl 48 [.str, .str, (.int .i64), (.int .i64), (.int .i64), (.sl 74 [.str, (.int .i64)])]) (.var 0))), (.c (.x .clo (.var 1))), .any, .any, (.c (.x (.int .i64) (.var 2))), .any, .any, (.c (.x (.int .i64) (.var 3))), (.c (.x (.int .i64) (.var 4))), .any, .any, .any, .any, .any, .any, .any, .any, .any, .any],
    []⟩,
   5, [2, 4], [9, 10, 5, 11, 12, 13, 14, 15, 16, 17, 4, 18, 8], [.ret, (.exit 0)], []⟩
def lt35 : List (Nat × LoopSig) := [(2, L35_0)]
theorem k35 : (Code.loops c35).length = 1 := by kernel_rfl
noncomputable def lb35_0 : Code := (Code.loops c35).getD 0 .skip
def rt35_0 : VT :=
  (.ite (.bin .lt (.var 4) (.var 3))
   (.need (.t true) (.c (.bin .le (.n 0) (.var 4)))
   (.need (.t true) (.c (.bin .lt (.var 4) (.un .len (.var 0))))
   (.need (.t true) (.pre 20049 (.cons (.var 1) (.cons (.sel 0 (.var 0) (.var 4)) (.cons (.sel 1 (.var 0) (.var 4)) (.cons (.sel 2 (.var 0) (.var 4)) (.cons (.sel 3 (.var 0) (.var 4)) (.cons (.sel 4 (.var 0) (.var 4)) (.cons (.sel 5 (.var 0) (.var 4)) .nil))))))))
   (.lt (.app 20049 (.cons (.var 1) (.cons (.sel 0 (.var 0) (.var 4)) (.cons (.sel 1 (.var 0) (.var 4)) (.cons (.sel 2 (.var 0) (.var 4)) (.cons (.sel 3 (.var 0) (.var 4)) (.cons (.sel 4 (.var 0) (.var 4)) (.cons (.sel 5 (.var 0) (.var 4)) .nil))))))) 0) 1
   (.ite (.var 5)
    (.ret (.cons (.n 0) (.cons (.var 4) (.cons (.var 4) .nil))))
    (.ret (.cons (.n (-1)) (.cons (.var 2) (.cons (.bin (.add .i64) (.var 4) (.n 1)) .nil)))))))))
   (.ret (.cons (.n 1) (.cons (.var 2) (.cons (.var 4) .nil)))))
theorem le35_0 : (loopVT Try.prog (sgOf sg35) (ltOf lt35) L35_0 lb35_0).slim L35_0.nv [] = rt35_0 := by kernel_rfl
theorem lf35_0 : (firstRegion lb35_0).bind (ltOf lt35) = some L35_0 := by kernel_rfl
theorem lk35_0 : (Code.loops lb35_0).length = 0 := by kernel_rfl
def vt35 : VT :=
  (.need (.t true) (.pre 13500 (.cons (.var 0) (.cons (.var 1) (.cons (.n 0) (.cons (.un .len (.var 0)) (.cons (.n 0) .nil))))))
  (.lt (.app 13500 (.cons (.var 0) (.cons (.var 1) (.cons (.n 0) (.cons (.un .len (.var 0)) (.cons (.n 0) .nil))))) 0) 3
  (.ite (.bin .eq (.var 2) (.n 0))
   (.ret (.cons (.var 3) .nil))
   (.ret (.cons (.n (-1)) .nil)))))
theorem e35 : (fnVT Try.prog (sgOf sg35) (ltOf lt35) S35 Try.f35 c35).slim (S35.ps.map fun p => p.2.length).sum [] = vt35 := by kernel_rfl

/-! ### 11 -/
def S11 : Sig := ⟨[(true, [.str, .bool, (.sl 48 [.str, .str, (.int .i64), (.int .i64), (.int .i64), (.sl 74 [.str, (.int .i64)])]), (.sl 56 [(.int .i64), (.int .i64), (.int .i64), (.int .i64), .str, (.int .i64), (.int .i64)]), (.sl 50 [.str, (.int .i64)])]), (false, [.str])], [(false, [(.int .i64)])], [], none⟩
noncomputable def c11 : Code := Try.f11.body.getD .skip
theorem b11 : Try.f11.body = some c11 := body_some (by kernel_rfl)
theorem n11 : (Try.f11.name == "runtime.NumGoroutine") = false := by kernel_rfl
def sg11 : List (FuncId × Sig) := [(35, S35)]
def lt11 : List (Nat × LoopSig) := []
theorem k11 : (Code.loops c11).length = 0 := by kernel_rfl
def vt11 : VT :=
  (.need (.t true) (.pre 35 (.cons (.var 2) (.cons (.clo 36 [(.pt [.str])] (.cons (.pk (.cons (.var 5) .nil)) .nil)) .nil)))
  (.lt (.app 35 (.cons (.var 2) (.cons (.clo 36 [(.pt [.str])] (.cons (.pk (.cons (.var 5) .nil)) .nil)) .nil)) 0) 1
  (.ret (.cons (.var 6) .nil))))
theorem e11 : (fnVT Try.prog (sgOf sg11) (ltOf lt11) S11 Try.f11 c11).slim (S11.ps.map fun p => p.2.length).sum [] = vt11 := by kernel_rfl

/-! ### 49 -/
def S49 : Sig := ⟨[(false, [.str])], [(false, [(.int .i64)])], [], none⟩
noncomputable def c49 : Code := Try.f49.body.getD .skip
theorem b49 : Try.f49.body = some c49 := body_some (by kernel_rfl)
theorem n49 : (Try.f49.name == "runtime.NumGoroutine") = false := by kernel_rfl
def sg49 : List (FuncId × Sig) := []
def L49_0 : LoopSig := ⟨14900, [],
   ⟨[.any, .any, (.c (.x (.int .i64) (.var 0))), .any, .any, .any, .any, .any, .any, (.c (.x (.sl 5 [(.int .u8)]) (.var 1))), (.c (.x (.int .i64) (.var 2))), (.c (.x (.int .i64) (.var 3))), .any, .any, .any, .any, .any, .any, .any, .any, .any, .any],
    []⟩,
   4, [0, 3], [12, 13, 14, 4, 15, 16, 17, 18, 19, 20, 2, 21, 11], [.ret, (.exit 0)], []⟩
def lt49 : List (Nat × LoopSig) := [(4, L49_0)]
theorem k49 : (Code.loops c49).length = 1 := by kernel_rfl
noncomputable def lb49_0 : Code := (Code.loops c49).getD 0 .skip
def rt49_0 : VT :=
  (.ite (.bin .lt (.var 3) (.var 2))
   (.need (.t true) (.c (.bin .le (.n 0) (.var 3)))
   (.need (.t true) (.c (.bin .lt (.var 3) (.un .len (.var 1))))
   (.ite (.ite (.bin .lt (.sel 0 (.var 1) (.var 3)) (.n 32)) (.t true) (.bin .lt (.n 126) (.sel 0 (.var 1) (.var 3))))
    (.ret (.cons (.n 0) (.cons (.n 7) (.cons (.var 3) .nil))))
    (.ret (.cons (.n (-1)) (.cons (.var 0) (.cons (.bin (.add .i64) (.var 3) (.n 1)) .nil)))))))
   (.ret (.cons (.n 1) (.cons (.var 0) (.cons (.var 3) .nil)))))
theorem le49_0 : (loopVT Try.prog (sgOf sg49) (ltOf lt49) L49_0 lb49_0).slim L49_0.nv [] = rt49_0 := by kernel_rfl
theorem lf49_0 : (firstRegion lb49_0).bind (ltOf lt49) = some L49_0 := by kernel_rfl
theorem lk49_0 : (Code.loops lb49_0).length = 0 := by kernel_rfl
def vt49 : VT :=
  (.ite (.bin .lt (.n 32) (.un .slen (.var 0)))
   (.ret (.cons (.n 2) .nil))
   (.need (.t true) (.pre 14900 (.cons (.n 0) (.cons (.un .bytes (.var 0)) (.cons (.un .len (.un .bytes (.var 0))) (.cons (.n 0) .nil)))))
   (.lt (.app 14900 (.cons (.n 0) (.cons (.un .bytes (.var 0)) (.cons (.un .len (.un .bytes (.var 0))) (.cons (.n 0) .nil)))) 0) 3
   (.ite (.bin .eq (.var 1) (.n 0))
    (.ret (.cons (.var 2) .nil))
    (.ret (.cons (.n 0) .nil))))))
theorem e49 : (fnVT Try.prog (sgOf sg49) (ltOf lt49) S49 Try.f49 c49).slim (S49.ps.map fun p => p.2.length).sum [] = vt49 := by kernel_rfl

/-! ### 50 -/
def S50 : Sig := ⟨[(false, [(.int .i64)])], [(false, [.bool])], [], none⟩
noncomputable def c50 : Code := Try.f50.body.getD .skip
theorem b50 : Try.f50.body = some c50 := body_some (by kernel_rfl)
theorem n50 : (Try.f50.name == "runtime.NumGoroutine") = false := by kernel_rfl
def sg50 : List (FuncId × Sig) := []
def lt50 : List (Nat × LoopSig) := []
theorem k50 : (Code.loops c50).length = 0 := by kernel_rfl
def vt50 : VT :=
  (.ret (.cons (.ite (.bin .le (.n 1) (.var 0)) (.bin .le (.var 0) (.n 1048576)) (.t false)) .nil))
theorem e50 : (fnVT Try.prog (sgOf sg50) (ltOf lt50) S50 Try.f50 c50).slim (S50.ps.map fun p => p.2.length).sum [] = vt50 := by kernel_rfl
def T50 : FuncId → List D → List D := tabOf []
def fn50 (ρ : List D) : List D := vt50.val T50 ρ
theorem m50 : Meets Try.prog 50 S50 (fun _ => True) fn50 := meets_easy (sgl := sg50) (Φ := T50) mixed ((fun _ h => nomatch h)) Try.func50 b50 n50 k50 e50 (by kernel_rfl)

/-! ### 63 -/
def S63 : Sig := ⟨[(true, [.str, (.int .i64)]), (false, [(.pt [.str, (.int .i64)])])], [(false, [.bool])], [], none⟩
noncomputable def c63 : Code := Try.f63.body.getD .skip
theorem b63 : Try.f63.body = some c63 := body_some (by kernel_rfl)
theorem n63 : (Try.f63.name == "runtime.NumGoroutine") = false := by kernel_rfl
def sg63 : List (FuncId × Sig) := []
def lt63 : List (Nat × LoopSig) := []
theorem k63 : (Code.loops c63).length = 0 := by kernel_rfl
def vt63 : VT :=
  (.ret (.cons (.bin .seq (.var 0) (.psel 0 (.var 2))) .nil))
theorem e63 : (fnVT Try.prog (sgOf sg63) (ltOf lt63) S63 Try.f63 c63).slim (S63.ps.map fun p => p.2.length).sum [] = vt63 := by kernel_rfl
def T63 : FuncId → List D → List D := tabOf []
def fn63 (ρ : List D) : List D := vt63.val T63 ρ
theorem m63 : Meets Try.prog 63 S63 (fun _ => True) fn63 := meets_easy (sgl := sg63) (Φ := T63) mixed ((fun _ h => nomatch h)) Try.func63 b63 n63 k63 e63 (by kernel_rfl)

/-! ### 67 -/
def S67 : Sig := ⟨[(false, [(.sl 74 [.str, (.int .i64)])]), (false, [.clo])], [(false, [(.int .i64)])], [], none⟩
noncomputable def c67 : Code := Try.f67.body.getD .skip
theorem b67 : Try.f67.body = some c67 := body_some (by kernel_rfl)
theorem n67 : (Try.f67.name == "runtime.NumGoroutine") = false := by kernel_rfl
def sg67 : List (FuncId × Sig) := [(20075, S20075)]
def L67_0 : LoopSig := ⟨16700, [],
   ⟨[(.c (.x (.sl 74 [.str, (.int .i64)]) (.var 0))), (.c (.x .clo (.var 1))), .any, .any, (.c (.x (.int .i64) (.var 2))), .any, .any, (.c (.x (.int .i64) (.var 3))), (.c (.x (.int .i64) (.var 4))), .any, .any, .any, .any, .any, .any, .any, .any, .any, .any],
    []⟩,
   5, [2, 4], [9, 10, 5, 11, 12, 13, 14, 15, 16, 17, 4, 18, 8], [.ret, (.exit 0)], []⟩
def lt67 : List (Nat × LoopSig) := [(2, L67_0)]
theorem k67 : (Code.loops c67).length = 1 := by kernel_rfl
noncomputable def lb67_0 : Code := (Code.loops c67).getD 0 .skip
def rt67_0 : VT :=
  (.ite (.bin .lt (.var 4) (.var 3))
   (.need (.t true) (.c (.bin .le (.n 0) (.var 4)))
   (.need (.t true) (.c (.bin .lt (.var 4) (.un .len (.var 0))))
   (.need (.t true) (.pre 20075 (.cons (.var 1) (.cons (.sel 0 (.var 0) (.var 4)) (.cons (.sel 1 (.var 0) (.var 4)) .nil))))
   (.lt (.app 20075 (.cons (.var 1) (.cons (.sel 0 (.var 0) (.var 4)) (.cons (.sel 1 (.var 0) (.var 4)) .nil))) 0) 1
   (.ite (.var 5)
    (.ret (.cons (.n 0) (.cons (.var 4) (.cons (.var 4) .nil))))
    (.ret (.cons (.n (-1)) (.cons (.var 2) (.cons (.bin (.add .i64) (.var 4) (.n 1)) .nil)))))))))
   (.ret (.cons (.n 1) (.cons (.var 2) (.cons (.var 4) .nil)))))
theorem le67_0 : (loopVT Try.prog (sgOf sg67) (ltOf lt67) L67_0 lb67_0).slim L67_0.nv [] = rt67_0 := by kernel_rfl
theorem lf67_0 : (firstRegion lb67_0).bind (ltOf lt67) = some L67_0 := by kernel_rfl
theorem lk67_0 : (Code.loops lb67_0).length = 0 := by kernel_rfl
def vt67 : VT :=
  (.need (.t true) (.pre 16700 (.cons (.var 0) (.cons (.var 1) (.cons (.n 0) (.cons (.un .len (.var 0)) (.cons (.n 0) .nil))))))
  (.lt (.app 16700 (.cons (.var 0) (.cons (.var 1) (.cons (.n 0) (.cons (.un .len (.var 0)) (.cons (.n 0) .nil))))) 0) 3
  (.ite (.bin .eq (.var 2) (.n 0))
   (.ret (.cons (.var 3) .nil))
   (.ret (.cons (.n (-1)) .nil)))))
theorem e67 : (fnVT Try.prog (sgOf sg67) (ltOf lt67) S67 Try.f67 c67).slim (S67.ps.map fun p => p.2.length).sum [] = vt67 := by kernel_rfl

/-! ### 62 -/
def S62 : Sig := ⟨[(false, [(.sl 74 [.str, (.int .i64)])]), (false, [.clo])], [(false, [.bool])], [], none⟩
noncomputable def c62 : Code := Try.f62.body.getD .skip
theorem b62 : Try.f62.body = some c62 := body_some (by kernel_rfl)
theorem n62 : (Try.f62.name == "runtime.NumGoroutine") = false := by kernel_rfl
def sg62 : List (FuncId × Sig) := [(67, S67)]
def lt62 : List (Nat × LoopSig) := []
theorem k62 : (Code.loops c62).length = 0 := by kernel_rfl
def vt62 : VT :=
  (.need (.t true) (.pre 67 (.cons (.var 0) (.cons (.var 1) .nil)))
  (.lt (.app 67 (.cons (.var 0) (.cons (.var 1) .nil)) 0) 1
  (.ret (.cons (.bin .le (.n 0) (.var 2)) .nil))))
theorem e62 : (fnVT Try.prog (sgOf sg62) (ltOf lt62) S62 Try.f62 c62).slim (S62.ps.map fun p => p.2.length).sum [] = vt62 := by kernel_rfl

/-! ### 51 -/
def S51 : Sig := ⟨[(false, [(.sl 74 [.str, (.int .i64)])])], [(false, [(.int .i64)])], [], none⟩
noncomputable def c51 : Code := Try.f51.body.getD .skip
theorem b51 : Try.f51.body = some c51 := body_some (by kernel_rfl)
theorem n51 : (Try.f51.name == "runtime.NumGoroutine") = false := by kernel_rfl
def sg51 : List (FuncId × Sig) := [(27, S27), (62, S62)]
def L51_0 : LoopSig := ⟨15100, [],
   ⟨[(.c (.x (.sl 74 [.str, (.int .i64)]) (.var 0))), .any, (.c (.x (.int .i64) (.var 1))), .any, .any, .any, .any, .any, (.c (.x (.sl 74 [.str, (.int .i64)]) (.var 2))), (.c (.x (.int .i64) (.var 3))), (.c (.x (.int .i64) (.var 4))), .any, .any, .any, .any, .any, .any, .any, .any, .any, .any, .any, .any, .any, .any, .any, .any, .any, .any, .any, .any, .any, .any, .any, .any, .any],
    []⟩,
   5, [1, 4], [11, 12, 13, 14, 4, 3, 16, 17, 18, 19, 15, 2, 21, 22, 23, 24, 25, 20, 27, 28, 29, 30, 31, 32, 33, 34, 26, 35, 10], [.ret, (.exit 0)], []⟩
def lt51 : List (Nat × LoopSig) := [(4, L51_0)]
theorem k51 : (Code.loops c51).length = 1 := by kernel_rfl
noncomputable def lb51_0 : Code := (Code.loops c51).getD 0 .skip
def rt51_0 : VT :=
  (.ite (.bin .lt (.var 4) (.var 3))
   (.need (.t true) (.c (.bin .le (.n 0) (.var 4)))
   (.need (.t true) (.c (.bin .lt (.var 4) (.un .len (.var 2))))
   (.need (.t true) (.pre 27 (.cons (.sel 0 (.var 2) (.var 4)) .nil))
   (.lt (.app 27 (.cons (.sel 0 (.var 2) (.var 4)) .nil) 0) 1
   (.ite (.un .not (.var 5))
    (.ret (.cons (.n 0) (.cons (.n 5) (.cons (.var 4) .nil))))
    (.need (.t true) (.c (.bin .le (.var 4) (.un .len (.var 0))))
    (.need (.t true) (.pre 62 (.cons (.sub (.var 0) (.n 0) (.var 4)) (.cons (.clo 63 [(.pt [.str, (.int .i64)])] (.cons (.pk (.cons (.sel 0 (.var 2) (.var 4)) (.cons (.sel 1 (.var 2) (.var 4)) .nil))) .nil)) .nil)))
    (.lt (.app 62 (.cons (.sub (.var 0) (.n 0) (.var 4)) (.cons (.clo 63 [(.pt [.str, (.int .i64)])] (.cons (.pk (.cons (.sel 0 (.var 2) (.var 4)) (.cons (.sel 1 (.var 2) (.var 4)) .nil))) .nil)) .nil)) 0) 1
    (.ite (.var 6)
     (.ret (.cons (.n 0) (.cons (.n 6) (.cons (.var 4) .nil))))
     (.ite (.ite (.bin .lt (.sel 1 (.var 2) (.var 4)) (.n 0)) (.t true) (.bin .lt (.n 3) (.sel 1 (.var 2) (.var 4))))
      (.ret (.cons (.n 0) (.cons (.n 7) (.cons (.var 4) .nil))))
      (.ret (.cons (.n (-1)) (.cons (.var 1) (.cons (.bin (.add .i64) (.var 4) (.n 1)) .nil))))))))))))))
   (.ret (.cons (.n 1) (.cons (.var 1) (.cons (.var 4) .nil)))))
theorem le51_0 : (loopVT Try.prog (sgOf sg51) (ltOf lt51) L51_0 lb51_0).slim L51_0.nv [] = rt51_0 := by kernel_rfl
theorem lf51_0 : (firstRegion lb51_0).bind (ltOf lt51) = some L51_0 := by kernel_rfl
theorem lk51_0 : (Code.loops lb51_0).length = 0 := by kernel_rfl
def vt51 : VT :=
  (.ite (.bin .lt (.n 8) (.un .len (.var 0)))
   (.ret (.cons (.n 2) .nil))
   (.need (.t true) (.pre 15100 (.cons (.var 0) (.cons (.n 0) (.cons (.var 0) (.cons (.un .len (.var 0)) (.cons (.n 0) .nil))))))
   (.lt (.app 15100 (.cons (.var 0) (.cons (.n 0) (.cons (.var 0) (.cons (.un .len (.var 0)) (.cons (.n 0) .nil))))) 0) 3
   (.ite (.bin .eq (.var 1) (.n 0))
    (.ret (.cons (.var 2) .nil))
    (.ret (.cons (.n 0) .nil))))))
theorem e51 : (fnVT Try.prog (sgOf sg51) (ltOf lt51) S51 Try.f51 c51).slim (S51.ps.map fun p => p.2.length).sum [] = vt51 := by kernel_rfl

/-! ### 28 -/
def S28 : Sig := ⟨[(true, [.str, .bool, (.sl 48 [.str, .str, (.int .i64), (.int .i64), (.int .i64), (.sl 74 [.str, (.int .i64)])]), (.sl 56 [(.int .i64), (.int .i64), (.int .i64), (.int .i64), .str, (.int .i64), (.int .i64)]), (.sl 50 [.str, (.int .i64)])]), (false, [(.int .i64)])], [(false, [(.int .i64)])], [], none⟩
noncomputable def c28 : Code := Try.f28.body.getD .skip
theorem b28 : Try.f28.body = some c28 := body_some (by kernel_rfl)
theorem n28 : (Try.f28.name == "runtime.NumGoroutine") = false := by kernel_rfl
def sg28 : List (FuncId × Sig) := [(27, S27), (11, S11), (49, S49), (50, S50), (51, S51)]
def lt28 : List (Nat × LoopSig) := []
theorem k28 : (Code.loops c28).length = 0 := by kernel_rfl
def vt28 : VT :=
  (.need (.t true) (.c (.bin .le (.n 0) (.var 5)))
  (.need (.t true) (.c (.bin .lt (.var 5) (.un .len (.var 2))))
  (.need (.t true) (.pre 27 (.cons (.sel 0 (.var 2) (.var 5)) .nil))
  (.lt (.app 27 (.cons (.sel 0 (.var 2) (.var 5)) .nil) 0) 1
  (.ite (.un .not (.var 6))
   (.ret (.cons (.n 5) .nil))
   (.need (.t true) (.pre 11 (.cons (.var 0) (.cons (.var 1) (.cons (.var 2) (.cons (.var 3) (.cons (.var 4) (.cons (.sel 0 (.var 2) (.var 5)) .nil)))))))
   (.lt (.app 11 (.cons (.var 0) (.cons (.var 1) (.cons (.var 2) (.cons (.var 3) (.cons (.var 4) (.cons (.sel 0 (.var 2) (.var 5)) .nil)))))) 0) 1
   (.ite (.bin .lt (.var 7) (.var 5))
    (.ret (.cons (.n 6) .nil))
    (.need (.t true) (.pre 49 (.cons (.sel 1 (.var 2) (.var 5)) .nil))
    (.lt (.app 49 (.cons (.sel 1 (.var 2) (.var 5)) .nil) 0) 1
    (.ite (.un .not (.bin .eq (.var 8) (.n 0)))
     (.ret (.cons (.var 8) .nil))
     (.need (.t true) (.pre 50 (.cons (.sel 2 (.var 2) (.var 5)) .nil))
     (.lt (.app 50 (.cons (.sel 2 (.var 2) (.var 5)) .nil) 0) 1
     (.need (.var 9) (.pre 50 (.cons (.sel 3 (.var 2) (.var 5)) .nil))
     (.lt (.app 50 (.cons (.sel 3 (.var 2) (.var 5)) .nil) 0) 1
     (.ite (.ite (.ite (.ite (.un .not (.var 9)) (.t true) (.un .not (.var 10))) (.t true) (.bin .lt (.sel 4 (.var 2) (.var 5)) (.n (-1)))) (.t true) (.bin .le (.un .len (.var 4)) (.sel 4 (.var 2) (.var 5))))
      (.ret (.cons (.n 3) .nil))
      (.need (.t true) (.pre 51 (.cons (.sel 5 (.var 2) (.var 5)) .nil))
      (.lt (.app 51 (.cons (.sel 5 (.var 2) (.var 5)) .nil) 0) 1
      (.ret (.cons (.var 11) .nil))))))))))))))))))))
theorem e28 : (fnVT Try.prog (sgOf sg28) (ltOf lt28) S28 Try.f28 c28).slim (S28.ps.map fun p => p.2.length).sum [] = vt28 := by kernel_rfl

/-! ### 53 -/
def S53 : Sig := ⟨[(true, [.str, (.int .i64)]), (false, [(.pt [.str, (.int .i64)])])], [(false, [.bool])], [], none⟩
noncomputable def c53 : Code := Try.f53.body.getD .skip
theorem b53 : Try.f53.body = some c53 := body_some (by kernel_rfl)
theorem n53 : (Try.f53.name == "runtime.NumGoroutine") = false := by kernel_rfl
def sg53 : List (FuncId × Sig) := []
def lt53 : List (Nat × LoopSig) := []
theorem k53 : (Code.loops c53).length = 0 := by kernel_rfl
def vt53 : VT :=
  (.ret (.cons (.bin .seq (.var 0) (.psel 0 (.var 2))) .nil))
theorem e53 : (fnVT Try.prog (sgOf sg53) (ltOf lt53) S53 Try.f53 c53).slim (S53.ps.map fun p => p.2.length).sum [] = vt53 := by kernel_rfl
def T53 : FuncId → List D → List D := tabOf []
def fn53 (ρ : List D) : List D := vt53.val T53 ρ
theorem m53 : Meets Try.prog 53 S53 (fun _ => True) fn53 := meets_easy (sgl := sg53) (Φ := T53) mixed ((fun _ h => nomatch h)) Try.func53 b53 n53 k53 e53 (by kernel_rfl)

/-! ### 64 -/
def S64 : Sig := ⟨[(false, [(.sl 50 [.str, (.int .i64)])]), (false, [.clo])], [(false, [(.int .i64)])], [], none⟩
noncomputable def c64 : Code := Try.f64.body.getD .skip
theorem b64 : Try.f64.body = some c64 := body_some (by kernel_rfl)
theorem n64 : (Try.f64.name == "runtime.NumGoroutine") = false := by kernel_rfl
def sg64 : List (FuncId × Sig) := [(20051, S20051)]
def L64_0 : LoopSig := ⟨16400, [],
   ⟨[(.c (.x (.sl 50 [.str, (.int .i64)]) (.var 0))), (.c (.x .clo (.var 1))), .any, .any, (.c (.x (.int .i64) (.var 2))), .any, .any, (.c (.x (.int .i64) (.var 3))), (.c (.x (.int .i64) (.var 4))), .any, .any, .any, .any, .any, .any, .any, .any, .any, .any],
    []⟩,
   5, [2, 4], [9, 10, 5, 11, 12, 13, 14, 15, 16, 17, 4, 18, 8], [.ret, (.exit 0)], []⟩
def lt64 : List (Nat × LoopSig) := [(2, L64_0)]
theorem k64 : (Code.loops c64).length = 1 := by kernel_rfl
noncomputable def lb64_0 : Code := (Code.loops c64).getD 0 .skip
def rt64_0 : VT :=
  (.ite (.bin .lt (.var 4) (.var 3))
   (.need (.t true) (.c (.bin .le (.n 0) (.var 4)))
   (.need (.t true) (.c (.bin .lt (.var 4) (.un .len (.var 0))))
   (.need (.t true) (.pre 20051 (.cons (.var 1) (.cons (.sel 0 (.var 0) (.var 4)) (.cons (.sel 1 (.var 0) (.var 4)) .nil))))
   (.lt (.app 20051 (.cons (.var 1) (.cons (.sel 0 (.var 0) (.var 4)) (.cons (.sel 1 (.var 0) (.var 4)) .nil))) 0) 1
   (.ite (.var 5)
    (.ret (.cons (.n 0) (.cons (.var 4) (.cons (.var 4) .nil))))
    (.ret (.cons (.n (-1)) (.cons (.var 2) (.cons (.bin (.add .i64) (.var 4) (.n 1)) .nil)))))))))
   (.ret (.cons (.n 1) (.cons (.var 2) (.cons (.var 4) .nil)))))
theorem le64_0 : (loopVT Try.prog (sgOf sg64) (ltOf lt64) L64_0 lb64_0).slim L64_0.nv [] = rt64_0 := by kernel_rfl
theorem lf64_0 : (firstRegion lb64_0).bind (ltOf lt64) = some L64_0 := by kernel_rfl
theorem lk64_0 : (Code.loops lb64_0).length = 0 := by kernel_rfl
def vt64 : VT :=
  (.need (.t true) (.pre 16400 (.cons (.var 0) (.cons (.var 1) (.cons (.n 0) (.cons (.un .len (.var 0)) (.cons (.n 0) .nil))))))
  (.lt (.app 16400 (.cons (.var 0) (.cons (.var 1) (.cons (.n 0) (.cons (.un .len (.var 0)) (.cons (.n 0) .nil))))) 0) 3
  (.ite (.bin .eq (.var 2) (.n 0))
   (.ret (.cons (.var 3) .nil))
   (.ret (.cons (.n (-1)) .nil)))))
theorem e64 : (fnVT Try.prog (sgOf sg64) (ltOf lt64) S64 Try.f64 c64).slim (S64.ps.map fun p => p.2.length).sum [] = vt64 := by kernel_rfl

/-! ### 52 -/
def S52 : Sig := ⟨[(false, [(.sl 50 [.str, (.int .i64)])]), (false, [.clo])], [(false, [.bool])], [], none⟩
noncomputable def c52 : Code := Try.f52.body.getD .skip
theorem b52 : Try.f52.body = some c52 := body_some (by kernel_rfl)
theorem n52 : (Try.f52.name == "runtime.NumGoroutine") = false := by kernel_rfl
def sg52 : List (FuncId × Sig) := [(64, S64)]
def lt52 : List (Nat × LoopSig) := []
theorem k52 : (Code.loops c52).length = 0 := by kernel_rfl
def vt52 : VT :=
  (.need (.t true) (.pre 64 (.cons (.var 0) (.cons (.var 1) .nil)))
  (.lt (.app 64 (.cons (.var 0) (.cons (.var 1) .nil)) 0) 1
  (.ret (.cons (.bin .le (.n 0) (.var 2)) .nil))))
theorem e52 : (fnVT Try.prog (sgOf sg52) (ltOf lt52) S52 Try.f52 c52).slim (S52.ps.map fun p => p.2.length).sum [] = vt52 := by kernel_rfl

/-! ### 43 -/
def S43 : Sig := ⟨[(true, [.str, .bool, (.sl 48 [.str, .str, (.int .i64), (.int .i64), (.int .i64), (.sl 74 [.str, (.int .i64)])]), (.sl 56 [(.int .i64), (.int .i64), (.int .i64), (.int .i64), .str, (.int .i64), (.int .i64)]), (.sl 50 [.str, (.int .i64)])]), (false, [(.int .i64)])], [(false, [(.sl 3 [(.int .i64)])])], [], none⟩
noncomputable def c43 : Code := Try.f43.body.getD .skip
theorem b43 : Try.f43.body = some c43 := body_some (by kernel_rfl)
theorem n43 : (Try.f43.name == "runtime.NumGoroutine") = false := by kernel_rfl
def sg43 : List (FuncId × Sig) := []
def L43_0 : LoopSig := ⟨14300, [(5, none, 3)],
   ⟨[.any, (.c (.x (.int .i64) (.var 0))), (.c (.ptr 0 0)), .any, .any, (.c (.row 1 1)), .any, .any, .any, .any, .any, .any, .any, .any, .any, .any, .any, .any, .any],
    [some ⟨(.t true), (.box 26 [(.x .str (.var 1)), (.x .bool (.var 2)), (.x (.sl 48 [.str, .str, (.int .i64), (.int .i64), (.int .i64), (.sl 74 [.str, (.int .i64)])]) (.var 3)), (.x (.sl 56 [(.int .i64), (.int .i64), (.int .i64), (.int .i64), .str, (.int .i64), (.int .i64)]) (.var 4)), (.x (.sl 50 [.str, (.int .i64)]) (.var 5))] false)⟩, some ⟨(.t true), (.row 3 [(.int .i64)] (.var 6) 1 false)⟩]⟩,
   7, [0, 6], [6, 7, 8, 9, 10, 11, 5, 12, 13, 14, 15, 16, 17, 1], [(.exit 0)], [6]⟩
def lt43 : List (Nat × LoopSig) := [(2, L43_0)]
theorem k43 : (Code.loops c43).length = 1 := by kernel_rfl
noncomputable def lb43_0 : Code := (Code.loops c43).getD 0 .skip
def rt43_0 : VT :=
  (.ite (.bin .le (.n 0) (.var 0))
   (.need (.t true) (.c (.bin .le (.un .len (.bin .cat (.var 6) (.lcons (.cons (.var 0) .nil) .lnil))) (.n 17592186044416)))
   (.need (.t true) (.c (.bin .lt (.var 0) (.un .len (.var 5))))
   (.ret (.cons (.n (-1)) (.cons (.sel 1 (.var 5) (.var 0)) (.cons (.bin .cat (.var 6) (.lcons (.cons (.var 0) .nil) .lnil)) .nil))))))
   (.ret (.cons (.n 0) (.cons (.var 0) (.cons (.var 6) .nil)))))
theorem le43_0 : (loopVT Try.prog (sgOf sg43) (ltOf lt43) L43_0 lb43_0).slim L43_0.nv [] = rt43_0 := by kernel_rfl
theorem lf43_0 : (firstRegion lb43_0).bind (ltOf lt43) = some L43_0 := by kernel_rfl
theorem lk43_0 : (Code.loops lb43_0).length = 0 := by kernel_rfl
def vt43 : VT :=
  (.need (.t true) (.pre 14300 (.cons (.var 5) (.cons (.var 0) (.cons (.var 1) (.cons (.var 2) (.cons (.var 3) (.cons (.var 4) (.cons .lnil .nil))))))))
  (.lt (.app 14300 (.cons (.var 5) (.cons (.var 0) (.cons (.var 1) (.cons (.var 2) (.cons (.var 3) (.cons (.var 4) (.cons .lnil .nil))))))) 0) 3
  (.ret (.cons (.var 8) .nil))))
theorem e43 : (fnVT Try.prog (sgOf sg43) (ltOf lt43) S43 Try.f43 c43).slim (S43.ps.map fun p => p.2.length).sum [] = vt43 := by kernel_rfl

/-! ### 45 -/
def S45 : Sig := ⟨[(true, [.str, .bool, (.sl 48 [.str, .str, (.int .i64), (.int .i64), (.int .i64), (.sl 74 [.str, (.int .i64)])]), (.sl 56 [(.int .i64), (.int .i64), (.int .i64), (.int .i64), .str, (.int .i64), (.int .i64)]), (.sl 50 [.str, (.int .i64)])]), (false, [(.int .i64)])], [(false, [(.int .i64)])], [], none⟩
noncomputable def c45 : Code := Try.f45.body.getD .skip
theorem b45 : Try.f45.body = some c45 := body_some (by kernel_rfl)
theorem n45 : (Try.f45.name == "runtime.NumGoroutine") = false := by kernel_rfl
def sg45 : List (FuncId × Sig) := [(43, S43)]
def lt45 : List (Nat × LoopSig) := []
theorem k45 : (Code.loops c45).length = 0 := by kernel_rfl
def vt45 : VT :=
  (.need (.t true) (.pre 43 (.cons (.var 0) (.cons (.var 1) (.cons (.var 2) (.cons (.var 3) (.cons (.var 4) (.cons (.var 5) .nil)))))))
  (.lt (.app 43 (.cons (.var 0) (.cons (.var 1) (.cons (.var 2) (.cons (.var 3) (.cons (.var 4) (.cons (.var 5) .nil)))))) 0) 1
  (.ret (.cons (.un .len (.var 6)) .nil))))
theorem e45 : (fnVT Try.prog (sgOf sg45) (ltOf lt45) S45 Try.f45 c45).slim (S45.ps.map fun p => p.2.length).sum [] = vt45 := by kernel_rfl

/-! ### 29 -/
def S29 : Sig := ⟨[(true, [.str, .bool, (.sl 48 [.str, .str, (.int .i64), (.int .i64), (.int .i64), (.sl 74 [.str, (.int .i64)])]), (.sl 56 [(.int .i64), (.int .i64), (.int .i64), (.int .i64), .str, (.int .i64), (.int .i64)]), (.sl 50 [.str, (.int .i64)])]), (false, [(.int .i64)])], [(false, [(.int .i64)])], [], none⟩
noncomputable def c29 : Code := Try.f29.body.getD .skip
theorem b29 : Try.f29.body = some c29 := body_some (by kernel_rfl)
theorem n29 : (Try.f29.name == "runtime.NumGoroutine") = false := by kernel_rfl
def sg29 : List (FuncId × Sig) := [(27, S27), (11, S11), (52, S52), (45, S45)]
def lt29 : List (Nat × LoopSig) := []
theorem k29 : (Code.loops c29).length = 0 := by kernel_rfl
def vt29 : VT :=
  (.need (.t true) (.c (.bin .le (.n 0) (.var 5)))
  (.need (.t true) (.c (.bin .lt (.var 5) (.un .len (.var 4))))
  (.need (.t true) (.pre 27 (.cons (.sel 0 (.var 4) (.var 5)) .nil))
  (.lt (.app 27 (.cons (.sel 0 (.var 4) (.var 5)) .nil) 0) 1
  (.ite (.un .not (.var 6))
   (.ret (.cons (.n 5) .nil))
   (.need (.t true) (.pre 11 (.cons (.var 0) (.cons (.var 1) (.cons (.var 2) (.cons (.var 3) (.cons (.var 4) (.cons (.sel 0 (.var 4) (.var 5)) .nil)))))))
   (.lt (.app 11 (.cons (.var 0) (.cons (.var 1) (.cons (.var 2) (.cons (.var 3) (.cons (.var 4) (.cons (.sel 0 (.var 4) (.var 5)) .nil)))))) 0) 1
   (.need (.un .not (.bin .le (.n 0) (.var 7))) (.c (.bin .le (.var 5) (.un .len (.var 4))))
   (.need (.un .not (.bin .le (.n 0) (.var 7))) (.pre 52 (.cons (.sub (.var 4) (.n 0) (.var 5)) (.cons (.clo 53 [(.pt [.str, (.int .i64)])] (.cons (.pk (.cons (.sel 0 (.var 4) (.var 5)) (.cons (.sel 1 (.var 4) (.var 5)) .nil))) .nil)) .nil)))
   (.lt (.app 52 (.cons (.sub (.var 4) (.n 0) (.var 5)) (.cons (.clo 53 [(.pt [.str, (.int .i64)])] (.cons (.pk (.cons (.sel 0 (.var 4) (.var 5)) (.cons (.sel 1 (.var 4) (.var 5)) .nil))) .nil)) .nil)) 0) 1
   (.ite (.ite (.bin .le (.n 0) (.var 7)) (.t true) (.var 8))
    (.ret (.cons (.n 6) .nil))
    (.ite (.ite (.bin .lt (.sel 1 (.var 4) (.var 5)) (.n (-1))) (.t true) (.bin .le (.var 5) (.sel 1 (.var 4) (.var 5))))
     (.ret (.cons (.n 3) .nil))
     (.need (.t true) (.pre 45 (.cons (.var 0) (.cons (.var 1) (.cons (.var 2) (.cons (.var 3) (.cons (.var 4) (.cons (.var 5) .nil)))))))
     (.lt (.app 45 (.cons (.var 0) (.cons (.var 1) (.cons (.var 2) (.cons (.var 3) (.cons (.var 4) (.cons (.var 5) .nil)))))) 0) 1
     (.ite (.bin .lt (.n 6) (.var 9))
      (.ret (.cons (.n 2) .nil))
      (.ret (.cons (.n 0) .nil)))))))))))))))))
theorem e29 : (fnVT Try.prog (sgOf sg29) (ltOf lt29) S29 Try.f29 c29).slim (S29.ps.map fun p => p.2.length).sum [] = vt29 := by kernel_rfl

/-! ### 30 -/
def S30 : Sig := ⟨[(true, [.str, .bool, (.sl 48 [.str, .str, (.int .i64), (.int .i64), (.int .i64), (.sl 74 [.str, (.int .i64)])]), (.sl 56 [(.int .i64), (.int .i64), (.int .i64), (.int .i64), .str, (.int .i64), (.int .i64)]), (.sl 50 [.str, (.int .i64)])]), (true, [(.int .i64), (.int .i64), (.int .i64), (.int .i64), .str, (.int .i64), (.int .i64)])], [(false, [(.int .i64)])], [], none⟩
noncomputable def c30 : Code := Try.f30.body.getD .skip
theorem b30 : Try.f30.body = some c30 := body_some (by kernel_rfl)
theorem n30 : (Try.f30.name == "runtime.NumGoroutine") = false := by kernel_rfl
def sg30 : List (FuncId × Sig) := [(49, S49)]
def lt30 : List (Nat × LoopSig) := []
theorem k30 : (Code.loops c30).length = 0 := by kernel_rfl
def vt30 : VT :=
  (.need (.un .not (.ite (.ite (.bin .lt (.bin .min (.var 5) (.var 6)) (.n 0)) (.t true) (.bin .le (.un .len (.var 2)) (.bin .max (.var 5) (.var 6)))) (.t true) (.bin .lt (.bin .min (.var 7) (.var 8)) (.n (-1))))) (.c (.bin .le (.n 0) (.var 5)))
  (.need (.un .not (.ite (.ite (.bin .lt (.bin .min (.var 5) (.var 6)) (.n 0)) (.t true) (.bin .le (.un .len (.var 2)) (.bin .max (.var 5) (.var 6)))) (.t true) (.bin .lt (.bin .min (.var 7) (.var 8)) (.n (-1))))) (.c (.bin .lt (.var 5) (.un .len (.var 2))))
  (.need (.un .not (.ite (.ite (.ite (.bin .lt (.bin .min (.var 5) (.var 6)) (.n 0)) (.t true) (.bin .le (.un .len (.var 2)) (.bin .max (.var 5) (.var 6)))) (.t true) (.bin .lt (.bin .min (.var 7) (.var 8)) (.n (-1)))) (.t true) (.bin .le (.un .len (.sel 5 (.var 2) (.var 5))) (.var 7)))) (.c (.bin .le (.n 0) (.var 6)))
  (.need (.un .not (.ite (.ite (.ite (.bin .lt (.bin .min (.var 5) (.var 6)) (.n 0)) (.t true) (.bin .le (.un .len (.var 2)) (.bin .max (.var 5) (.var 6)))) (.t true) (.bin .lt (.bin .min (.var 7) (.var 8)) (.n (-1)))) (.t true) (.bin .le (.un .len (.sel 5 (.var 2) (.var 5))) (.var 7)))) (.c (.bin .lt (.var 6) (.un .len (.var 2))))
  (.ite (.ite (.ite (.ite (.ite (.bin .lt (.bin .min (.var 5) (.var 6)) (.n 0)) (.t true) (.bin .le (.un .len (.var 2)) (.bin .max (.var 5) (.var 6)))) (.t true) (.bin .lt (.bin .min (.var 7) (.var 8)) (.n (-1)))) (.t true) (.bin .le (.un .len (.sel 5 (.var 2) (.var 5))) (.var 7))) (.t true) (.bin .le (.un .len (.sel 5 (.var 2) (.var 6))) (.var 8)))
   (.ret (.cons (.n 3) .nil))
   (.need (.t true) (.pre 49 (.cons (.var 9) .nil))
   (.lt (.app 49 (.cons (.var 9) .nil) 0) 1
   (.ite (.un .not (.bin .eq (.var 12) (.n 0)))
    (.ret (.cons (.var 12) .nil))
    (.ite (.ite (.ite (.ite (.bin .lt (.var 10) (.n 1)) (.t true) (.bin .lt (.n 1000) (.var 10))) (.t true) (.bin .lt (.var 11) (.n 1))) (.t true) (.bin .lt (.n 64) (.var 11)))
     (.ret (.cons (.n 7) .nil))
     (.ret (.cons (.n 0) .nil)))))))))))
theorem e30 : (fnVT Try.prog (sgOf sg30) (ltOf lt30) S30 Try.f30 c30).slim (S30.ps.map fun p => p.2.length).sum [] = vt30 := by kernel_rfl

/-! ### 9 -/
def S9 : Sig := ⟨[(true, [.str, .bool, (.sl 48 [.str, .str, (.int .i64), (.int .i64), (.int .i64), (.sl 74 [.str, (.int .i64)])]), (.sl 56 [(.int .i64), (.int .i64), (.int .i64), (.int .i64), .str, (.int .i64), (.int .i64)]), (.sl 50 [.str, (.int .i64)])])], [(false, [(.int .i64)])], [], none⟩
noncomputable def c9 : Code := Try.f9.body.getD .skip
theorem b9 : Try.f9.body = some c9 := body_some (by kernel_rfl)
theorem n9 : (Try.f9.name == "runtime.NumGoroutine") = false := by kernel_rfl
def sg9 : List (FuncId × Sig) := [(27, S27), (28, S28), (29, S29), (30, S30)]
def L9_0 : LoopSig := ⟨10900, [],
   ⟨[.any, (.c (.ptr 0 0)), (.c (.x (.int .i64) (.var 0))), .any, .any, .any, .any, .any, .any, .any, .any, .any, .any, .any, .any, .any, .any, .any, .any, .any, .any, .any, .any, .any, .any, .any, .any, .any, .any, .any, .any, .any, (.c (.x (.int .i64) (.var 1))), (.c (.x (.int .i64) (.var 2))), .any, .any, .any, .any, .any, .any, .any, .any, .any, .any, .any, .any, .any, .any, .any, .any, .any, .any, .any, .any, .any, .any, .any, .any, .any, .any, .any, .any, .any, .any, .any, .any, .any, .any, .any, .any],
    [some ⟨(.t true), (.box 26 [(.x .str (.var 3)), (.x .bool (.var 4)), (.x (.sl 48 [.str, .str, (.int .i64), (.int .i64), (.int .i64), (.sl 74 [.str, (.int .i64)])]) (.var 5)), (.x (.sl 56 [(.int .i64), (.int .i64), (.int .i64), (.int .i64), .str, (.int .i64), (.int .i64)]) (.var 6)), (.x (.sl 50 [.str, (.int .i64)]) (.var 7))] false)⟩]⟩,
   8, [0, 2], [34, 35, 3, 36, 37, 38, 4, 39, 40, 41, 2, 42, 33], [.ret, (.exit 0)], []⟩
def L9_1 : LoopSig := ⟨10901, [],
   ⟨[.any, (.c (.ptr 0 0)), (.c (.x (.int .i64) (.var 0))), .any, .any, .any, .any, .any, .any, .any, .any, .any, .any, .any, .any, .any, .any, .any, .any, .any, .any, .any, .any, .any, .any, .any, .any, .any, .any, .any, .any, .any, .any, .any, .any, .any, .any, .any, .any, .any, .any, .any, .any, .any, .any, (.c (.x (.int .i64) (.var 1))), (.c (.x (.int .i64) (.var 2))), .any, .any, .any, .any, .any, .any, .any, .any, .any, .any, .any, .any, .any, .any, .any, .any, .any, .any, .any, .any, .any, .any, .any],
    [some ⟨(.t true), (.box 26 [(.x .str (.var 3)), (.x .bool (.var 4)), (.x (.sl 48 [.str, .str, (.int .i64), (.int .i64), (.int .i64), (.sl 74 [.str, (.int .i64)])]) (.var 5)), (.x (.sl 56 [(.int .i64), (.int .i64), (.int .i64), (.int .i64), .str, (.int .i64), (.int .i64)]) (.var 6)), (.x (.sl 50 [.str, (.int .i64)]) (.var 7))] false)⟩]⟩,
   8, [0, 2], [47, 48, 5, 49, 50, 51, 6, 52, 53, 54, 2, 55, 46], [.ret, (.exit 2)], []⟩
def L9_2 : LoopSig := ⟨10902, [],
   ⟨[.any, (.c (.ptr 0 0)), (.c (.x (.int .i64) (.var 0))), .any, .any, .any, .any, .any, .any, .any, .any, .any, .any, .any, .any, .any, .any, .any, .any, .any, .any, .any, .any, .any, .any, .any, .any, .any, .any, .any, .any, .any, .any, .any, .any, .any, .any, .any, .any, .any, .any, .any, .any, .any, .any, .any, .any, .any, .any, .any, .any, .any, .any, .any, .any, .any, .any, (.c (.x (.sl 56 [(.int .i64), (.int .i64), (.int .i64), (.int .i64), .str, (.int .i64), (.int .i64)]) (.var 1))), (.c (.x (.int .i64) (.var 2))), (.c (.x (.int .i64) (.var 3))), .any, .any, .any, .any, .any, .any, .any, .any, .any, .any],
    [some ⟨(.t true), (.box 26 [(.x .str (.var 4)), (.x .bool (.var 5)), (.x (.sl 48 [.str, .str, (.int .i64), (.int .i64), (.int .i64), (.sl 74 [.str, (.int .i64)])]) (.var 6)), (.x (.sl 56 [(.int .i64), (.int .i64), (.int .i64), (.int .i64), .str, (.int .i64), (.int .i64)]) (.var 7)), (.x (.sl 50 [.str, (.int .i64)]) (.var 8))] false)⟩]⟩,
   9, [0, 3], [60, 61, 62, 8, 63, 64, 65, 9, 66, 67, 68, 2, 69, 59], [.ret, (.exit 4)], []⟩
def lt9 : List (Nat × LoopSig) := [(6, L9_0), (13, L9_1), (20, L9_2)]
theorem k9 : (Code.loops c9).length = 3 := by kernel_rfl
noncomputable def lb9_0 : Code := (Code.loops c9).getD 0 .skip
noncomputable def lb9_1 : Code := (Code.loops c9).getD 1 .skip
noncomputable def lb9_2 : Code := (Code.loops c9).getD 2 .skip
def rt9_0 : VT :=
  (.ite (.bin .lt (.var 2) (.var 1))
   (.need (.t true) (.pre 28 (.cons (.var 3) (.cons (.var 4) (.cons (.var 5) (.cons (.var 6) (.cons (.var 7) (.cons (.var 2) .nil)))))))
   (.lt (.app 28 (.cons (.var 3) (.cons (.var 4) (.cons (.var 5) (.cons (.var 6) (.cons (.var 7) (.cons (.var 2) .nil)))))) 0) 1
   (.ite (.un .not (.bin .eq (.var 8) (.n 0)))
    (.ret (.cons (.n 0) (.cons (.var 8) (.cons (.var 2) .nil))))
    (.ret (.cons (.n (-1)) (.cons (.var 0) (.cons (.bin (.add .i64) (.var 2) (.n 1)) .nil)))))))
   (.ret (.cons (.n 1) (.cons (.var 0) (.cons (.var 2) .nil)))))
theorem le9_0 : (loopVT Try.prog (sgOf sg9) (ltOf lt9) L9_0 lb9_0).slim L9_0.nv [] = rt9_0 := by kernel_rfl
theorem lf9_0 : (firstRegion lb9_0).bind (ltOf lt9) = some L9_0 := by kernel_rfl
theorem lk9_0 : (Code.loops lb9_0).length = 0 := by kernel_rfl
def rt9_1 : VT :=
  (.ite (.bin .lt (.var 2) (.var 1))
   (.need (.t true) (.pre 29 (.cons (.var 3) (.cons (.var 4) (.cons (.var 5) (.cons (.var 6) (.cons (.var 7) (.cons (.var 2) .nil)))))))
   (.lt (.app 29 (.cons (.var 3) (.cons (.var 4) (.cons (.var 5) (.cons (.var 6) (.cons (.var 7) (.cons (.var 2) .nil)))))) 0) 1
   (.ite (.un .not (.bin .eq (.var 8) (.n 0)))
    (.ret (.cons (.n 0) (.cons (.var 8) (.cons (.var 2) .nil))))
    (.ret (.cons (.n (-1)) (.cons (.var 0) (.cons (.bin (.add .i64) (.var 2) (.n 1)) .nil)))))))
   (.ret (.cons (.n 1) (.cons (.var 0) (.cons (.var 2) .nil)))))
theorem le9_1 : (loopVT Try.prog (sgOf sg9) (ltOf lt9) L9_1 lb9_1).slim L9_1.nv [] = rt9_1 := by kernel_rfl
theorem lf9_1 : (firstRegion lb9_1).bind (ltOf lt9) = some L9_1 := by kernel_rfl
theorem lk9_1 : (Code.loops lb9_1).length = 0 := by kernel_rfl
def rt9_2 : VT :=
  (.ite (.bin .lt (.var 3) (.var 2))
   (.need (.t true) (.c (.bin .le (.n 0) (.var 3)))
   (.need (.t true) (.c (.bin .lt (.var 3) (.un .len (.var 1))))
   (.need (.t true) (.pre 30 (.cons (.var 4) (.cons (.var 5) (.cons (.var 6) (.cons (.var 7) (.cons (.var 8) (.cons (.sel 0 (.var 1) (.var 3)) (.cons (.sel 1 (.var 1) (.var 3)) (.cons (.sel 2 (.var 1) (.var 3)) (.cons (.sel 3 (.var 1) (.var 3)) (.cons (.sel 4 (.var 1) (.var 3)) (.cons (.sel 5 (.var 1) (.var 3)) (.cons (.sel 6 (.var 1) (.var 3)) .nil)))))))))))))
   (.lt (.app 30 (.cons (.var 4) (.cons (.var 5) (.cons (.var 6) (.cons (.var 7) (.cons (.var 8) (.cons (.sel 0 (.var 1) (.var 3)) (.cons (.sel 1 (.var 1) (.var 3)) (.cons (.sel 2 (.var 1) (.var 3)) (.cons (.sel 3 (.var 1) (.var 3)) (.cons (.sel 4 (.var 1) (.var 3)) (.cons (.sel 5 (.var 1) (.var 3)) (.cons (.sel 6 (.var 1) (.var 3)) .nil)))))))))))) 0) 1
   (.ite (.un .not (.bin .eq (.var 9) (.n 0)))
    (.ret (.cons (.n 0) (.cons (.var 9) (.cons (.var 3) .nil))))
    (.ret (.cons (.n (-1)) (.cons (.var 0) (.cons (.bin (.add .i64) (.var 3) (.n 1)) .nil)))))))))
   (.ret (.cons (.n 1) (.cons (.var 0) (.cons (.var 3) .nil)))))
theorem le9_2 : (loopVT Try.prog (sgOf sg9) (ltOf lt9) L9_2 lb9_2).slim L9_2.nv [] = rt9_2 := by kernel_rfl
theorem lf9_2 : (firstRegion lb9_2).bind (ltOf lt9) = some L9_2 := by kernel_rfl
theorem lk9_2 : (Code.loops lb9_2).length = 0 := by kernel_rfl
def vt9 : VT :=
  (.ite (.ite (.ite (.bin .lt (.n 64) (.un .len (.var 2))) (.t true) (.bin .lt (.n 256) (.un .len (.var 3)))) (.t true) (.bin .lt (.n 16) (.un .len (.var 4))))
   (.ret (.cons (.n 2) .nil))
   (.need (.t true) (.pre 27 (.cons (.var 0) .nil))
   (.lt (.app 27 (.cons (.var 0) .nil) 0) 1
   (.ite (.un .not (.var 5))
    (.ret (.cons (.n 5) .nil))
    (.need (.t true) (.pre 10900 (.cons (.n 0) (.cons (.un .len (.var 2)) (.cons (.n 0) (.cons (.var 0) (.cons (.var 1) (.cons (.var 2) (.cons (.var 3) (.cons (.var 4) .nil)))))))))
    (.lt (.app 10900 (.cons (.n 0) (.cons (.un .len (.var 2)) (.cons (.n 0) (.cons (.var 0) (.cons (.var 1) (.cons (.var 2) (.cons (.var 3) (.cons (.var 4) .nil)))))))) 0) 3
    (.ite (.bin .eq (.var 6) (.n 0))
     (.ret (.cons (.var 7) .nil))
     (.need (.t true) (.pre 10901 (.cons (.var 7) (.cons (.un .len (.var 4)) (.cons (.n 0) (.cons (.var 0) (.cons (.var 1) (.cons (.var 2) (.cons (.var 3) (.cons (.var 4) .nil)))))))))
     (.lt (.app 10901 (.cons (.var 7) (.cons (.un .len (.var 4)) (.cons (.n 0) (.cons (.var 0) (.cons (.var 1) (.cons (.var 2) (.cons (.var 3) (.cons (.var 4) .nil)))))))) 0) 3
     (.ite (.bin .eq (.var 9) (.n 0))
      (.ret (.cons (.var 10) .nil))
      (.need (.t true) (.pre 10902 (.cons (.var 10) (.cons (.var 3) (.cons (.un .len (.var 3)) (.cons (.n 0) (.cons (.var 0) (.cons (.var 1) (.cons (.var 2) (.cons (.var 3) (.cons (.var 4) .nil))))))))))
      (.lt (.app 10902 (.cons (.var 10) (.cons (.var 3) (.cons (.un .len (.var 3)) (.cons (.n 0) (.cons (.var 0) (.cons (.var 1) (.cons (.var 2) (.cons (.var 3) (.cons (.var 4) .nil))))))))) 0) 3
      (.ite (.bin .eq (.var 12) (.n 0))
       (.ret (.cons (.var 13) .nil))
       (.ret (.cons (.n 0) .nil)))))))))))))))
theorem e9 : (fnVT Try.prog (sgOf sg9) (ltOf lt9) S9 Try.f9 c9).slim (S9.ps.map fun p => p.2.length).sum [] = vt9 := by kernel_rfl

/-! ### 59 -/
def S59 : Sig := ⟨[(false, [(.sl 3 [(.int .i64)])]), (false, [(.int .i64)])], [(false, [(.int .i64)])], [], none⟩
noncomputable def c59 : Code := Try.f59.body.getD .skip
theorem b59 : Try.f59.body = some c59 := body_some (by kernel_rfl)
theorem n59 : (Try.f59.name == "runtime.NumGoroutine") = false := by kernel_rfl
def sg59 : List (FuncId × Sig) := []
def L59_0 : LoopSig := ⟨15900, [],
   ⟨[(.c (.x (.sl 3 [(.int .i64)]) (.var 0))), (.c (.x (.int .i64) (.var 1))), .any, .any, (.c (.x (.int .i64) (.var 2))), .any, .any, (.c (.x (.int .i64) (.var 3))), (.c (.x (.int .i64) (.var 4))), .any, .any, .any, .any, .any, .any, .any, .any, .any, .any],
    []⟩,
   5, [2, 4], [9, 10, 5, 11, 12, 13, 14, 15, 16, 17, 4, 18, 8], [.ret, (.exit 0)], []⟩
def lt59 : List (Nat × LoopSig) := [(2, L59_0)]
theorem k59 : (Code.loops c59).length = 1 := by kernel_rfl
noncomputable def lb59_0 : Code := (Code.loops c59).getD 0 .skip
def rt59_0 : VT :=
  (.ite (.bin .lt (.var 4) (.var 3))
   (.need (.t true) (.c (.bin .le (.n 0) (.var 4)))
   (.need (.t true) (.c (.bin .lt (.var 4) (.un .len (.var 0))))
   (.ite (.bin .eq (.var 1) (.sel 0 (.var 0) (.var 4)))
    (.ret (.cons (.n 0) (.cons (.var 4) (.cons (.var 4) .nil))))
    (.ret (.cons (.n (-1)) (.cons (.var 2) (.cons (.bin (.add .i64) (.var 4) (.n 1)) .nil)))))))
   (.ret (.cons (.n 1) (.cons (.var 2) (.cons (.var 4) .nil)))))
theorem le59_0 : (loopVT Try.prog (sgOf sg59) (ltOf lt59) L59_0 lb59_0).slim L59_0.nv [] = rt59_0 := by kernel_rfl
theorem lf59_0 : (firstRegion lb59_0).bind (ltOf lt59) = some L59_0 := by kernel_rfl
theorem lk59_0 : (Code.loops lb59_0).length = 0 := by kernel_rfl
def vt59 : VT :=
  (.need (.t true) (.pre 15900 (.cons (.var 0) (.cons (.var 1) (.cons (.n 0) (.cons (.un .len (.var 0)) (.cons (.n 0) .nil))))))
  (.lt (.app 15900 (.cons (.var 0) (.cons (.var 1) (.cons (.n 0) (.cons (.un .len (.var 0)) (.cons (.n 0) .nil))))) 0) 3
  (.ite (.bin .eq (.var 2) (.n 0))
   (.ret (.cons (.var 3) .nil))
   (.ret (.cons (.n (-1)) .nil)))))
theorem e59 : (fnVT Try.prog (sgOf sg59) (ltOf lt59) S59 Try.f59 c59).slim (S59.ps.map fun p => p.2.length).sum [] = vt59 := by kernel_rfl

/-! ### 42 -/
def S42 : Sig := ⟨[(false, [(.sl 3 [(.int .i64)])]), (false, [(.int .i64)])], [(false, [.bool])], [], none⟩
noncomputable def c42 : Code := Try.f42.body.getD .skip
theorem b42 : Try.f42.body = some c42 := body_some (by kernel_rfl)
theorem n42 : (Try.f42.name == "runtime.NumGoroutine") = false := by kernel_rfl
def sg42 : List (FuncId × Sig) := [(59, S59)]
def lt42 : List (Nat × LoopSig) := []
theorem k42 : (Code.loops c42).length = 0 := by kernel_rfl
def vt42 : VT :=
  (.need (.t true) (.pre 59 (.cons (.var 0) (.cons (.var 1) .nil)))
  (.lt (.app 59 (.cons (.var 0) (.cons (.var 1) .nil)) 0) 1
  (.ret (.cons (.bin .le (.n 0) (.var 2)) .nil))))
theorem e42 : (fnVT Try.prog (sgOf sg42) (ltOf lt42) S42 Try.f42 c42).slim (S42.ps.map fun p => p.2.length).sum [] = vt42 := by kernel_rfl

/-! ### 19 -/
def S19 : Sig := ⟨[(true, [.str, .bool, (.sl 48 [.str, .str, (.int .i64), (.int .i64), (.int .i64), (.sl 74 [.str, (.int .i64)])]), (.sl 56 [(.int .i64), (.int .i64), (.int .i64), (.int .i64), .str, (.int .i64), (.int .i64)]), (.sl 50 [.str, (.int .i64)])]), (false, [(.int .i64)])], [(false, [(.sl 3 [(.int .i64)])])], [], none⟩
noncomputable def c19 : Code := Try.f19.body.getD .skip
theorem b19 : Try.f19.body = some c19 := body_some (by kernel_rfl)
theorem n19 : (Try.f19.name == "runtime.NumGoroutine") = false := by kernel_rfl
def sg19 : List (FuncId × Sig) := [(9, S9), (43, S43), (42, S42)]
def L19_0 : LoopSig := ⟨11900, [(5, none, 3)],
   ⟨[.any, (.c (.x (.int .i64) (.var 0))), (.c (.ptr 0 0)), .any, .any, (.c (.row 1 1)), .any, .any, .any, .any, .any, .any, .any, .any, .any, .any, .any, .any, .any, .any, .any, .any, .any, (.c (.x (.sl 48 [.str, .str, (.int .i64), (.int .i64), (.int .i64), (.sl 74 [.str, (.int .i64)])]) (.var 1))), (.c (.x (.int .i64) (.var 2))), (.c (.x (.int .i64) (.var 3))), .any, .any, .any, .any, .any, .any, .any, .any, .any, .any, .any, .any, .any, .any, .any, .any, .any, .any, .any, .any],
    [some ⟨(.t true), (.box 26 [(.x .str (.var 4)), (.x .bool (.var 5)), (.x (.sl 48 [.str, .str, (.int .i64), (.int .i64), (.int .i64), (.sl 74 [.str, (.int .i64)])]) (.var 6)), (.x (.sl 56 [(.int .i64), (.int .i64), (.int .i64), (.int .i64), .str, (.int .i64), (.int .i64)]) (.var 7)), (.x (.sl 50 [.str, (.int .i64)]) (.var 8))] false)⟩, some ⟨(.t true), (.row 3 [(.int .i64)] (.var 9) 1 false)⟩]⟩,
   10, [3, 9], [26, 27, 28, 29, 7, 6, 30, 31, 32, 33, 34, 35, 36, 37, 38, 39, 40, 41, 42, 43, 5, 44, 25], [(.exit 0)], [9]⟩
def lt19 : List (Nat × LoopSig) := [(5, L19_0)]
theorem k19 : (Code.loops c19).length = 1 := by kernel_rfl
noncomputable def lb19_0 : Code := (Code.loops c19).getD 0 .skip
def rt19_0 : VT :=
  (.ite (.bin .lt (.var 3) (.var 2))
   (.need (.t true) (.c (.bin .le (.n 0) (.var 3)))
   (.need (.t true) (.c (.bin .lt (.var 3) (.un .len (.var 1))))
   (.need (.un .not (.bin .lt (.var 0) (.n 0))) (.pre 43 (.cons (.var 4) (.cons (.var 5) (.cons (.var 6) (.cons (.var 7) (.cons (.var 8) (.cons (.sel 4 (.var 1) (.var 3)) .nil)))))))
   (.lt (.app 43 (.cons (.var 4) (.cons (.var 5) (.cons (.var 6) (.cons (.var 7) (.cons (.var 8) (.cons (.sel 4 (.var 1) (.var 3)) .nil)))))) 0) 1
   (.need (.un .not (.bin .lt (.var 0) (.n 0))) (.pre 42 (.cons (.var 10) (.cons (.var 0) .nil)))
   (.lt (.app 42 (.cons (.var 10) (.cons (.var 0) .nil)) 0) 1
   (.ite (.ite (.bin .lt (.var 0) (.n 0)) (.t true) (.var 11))
    (.need (.t true) (.c (.bin .le (.un .len (.bin .cat (.var 9) (.lcons (.cons (.var 3) .nil) .lnil))) (.n 17592186044416)))
    (.ret (.cons (.n (-1)) (.cons (.bin (.add .i64) (.var 3) (.n 1)) (.cons (.bin .cat (.var 9) (.lcons (.cons (.var 3) .nil) .lnil)) .nil)))))
    (.ret (.cons (.n (-1)) (.cons (.bin (.add .i64) (.var 3) (.n 1)) (.cons (.var 9) .nil)))))))))))
   (.ret (.cons (.n 0) (.cons (.var 3) (.cons (.var 9) .nil)))))
theorem le19_0 : (loopVT Try.prog (sgOf sg19) (ltOf lt19) L19_0 lb19_0).slim L19_0.nv [] = rt19_0 := by kernel_rfl
theorem lf19_0 : (firstRegion lb19_0).bind (ltOf lt19) = some L19_0 := by kernel_rfl
theorem lk19_0 : (Code.loops lb19_0).length = 0 := by kernel_rfl
def vt19 : VT :=
  (.need (.t true) (.pre 9 (.cons (.var 0) (.cons (.var 1) (.cons (.var 2) (.cons (.var 3) (.cons (.var 4) .nil))))))
  (.lt (.app 9 (.cons (.var 0) (.cons (.var 1) (.cons (.var 2) (.cons (.var 3) (.cons (.var 4) .nil))))) 0) 1
  (.ite (.ite (.ite (.un .not (.bin .eq (.var 6) (.n 0))) (.t true) (.bin .lt (.var 5) (.n (-1)))) (.t true) (.bin .le (.un .len (.var 4)) (.var 5)))
   (.ret (.cons .lnil .nil))
   (.need (.t true) (.pre 11900 (.cons (.var 5) (.cons (.var 2) (.cons (.un .len (.var 2)) (.cons (.n 0) (.cons (.var 0) (.cons (.var 1) (.cons (.var 2) (.cons (.var 3) (.cons (.var 4) (.cons .lnil .nil)))))))))))
   (.lt (.app 11900 (.cons (.var 5) (.cons (.var 2) (.cons (.un .len (.var 2)) (.cons (.n 0) (.cons (.var 0) (.cons (.var 1) (.cons (.var 2) (.cons (.var 3) (.cons (.var 4) (.cons .lnil .nil)))))))))) 0) 3
   (.ret (.cons (.var 9) .nil)))))))
theorem e19 : (fnVT Try.prog (sgOf sg19) (ltOf lt19) S19 Try.f19 c19).slim (S19.ps.map fun p => p.2.length).sum [] = vt19 := by kernel_rfl

/-! ### 18 -/
def S18 : Sig := ⟨[(false, [(.sl 3 [(.int .i64)])]), (false, [(.sl 3 [(.int .i64)])])], [(false, [.bool])], [], none⟩
noncomputable def c18 : Code := Try.f18.body.getD .skip
theorem b18 : Try.f18.body = some c18 := body_some (by kernel_rfl)
theorem n18 : (Try.f18.name == "runtime.NumGoroutine") = false := by kernel_rfl
def sg18 : List (FuncId × Sig) := []
def L18_0 : LoopSig := ⟨11800, [],
   ⟨[(.c (.x (.sl 3 [(.int .i64)]) (.var 0))), (.c (.x (.sl 3 [(.int .i64)]) (.var 1))), .any, .any, (.c (.x .bool (.var 2))), (.c (.x (.int .i64) (.var 3))), .any, .any, .any, .any, .any, .any, .any, .any, .any, .any, .any, .any, .any, .any, .any, .any, .any, .any, .any, .any],
    []⟩,
   4, [2, 3], [11, 12, 13, 14, 17, 18, 19, 20, 21, 22, 23, 24, 25, 4, 15, 16, 5], [.ret, (.exit 0)], []⟩
def lt18 : List (Nat × LoopSig) := [(4, L18_0)]
theorem k18 : (Code.loops c18).length = 1 := by kernel_rfl
noncomputable def lb18_0 : Code := (Code.loops c18).getD 0 .skip
def rt18_0 : VT :=
  (.ite (.bin .lt (.var 3) (.un .len (.var 0)))
   (.need (.t true) (.c (.bin .le (.n 0) (.var 3)))
   (.need (.t true) (.c (.bin .lt (.var 3) (.un .len (.var 1))))
   (.ite (.un .not (.bin .eq (.sel 0 (.var 0) (.var 3)) (.sel 0 (.var 1) (.var 3))))
    (.ret (.cons (.n 0) (.cons (.t false) (.cons (.var 3) .nil))))
    (.ret (.cons (.n (-1)) (.cons (.var 2) (.cons (.bin (.add .i64) (.var 3) (.n 1)) .nil)))))))
   (.ret (.cons (.n 1) (.cons (.var 2) (.cons (.var 3) .nil)))))
theorem le18_0 : (loopVT Try.prog (sgOf sg18) (ltOf lt18) L18_0 lb18_0).slim L18_0.nv [] = rt18_0 := by kernel_rfl
theorem lf18_0 : (firstRegion lb18_0).bind (ltOf lt18) = some L18_0 := by kernel_rfl
theorem lk18_0 : (Code.loops lb18_0).length = 0 := by kernel_rfl
def vt18 : VT :=
  (.ite (.un .not (.bin .eq (.un .len (.var 0)) (.un .len (.var 1))))
   (.ret (.cons (.t false) .nil))
   (.need (.t true) (.pre 11800 (.cons (.var 0) (.cons (.var 1) (.cons (.t false) (.cons (.n 0) .nil)))))
   (.lt (.app 11800 (.cons (.var 0) (.cons (.var 1) (.cons (.t false) (.cons (.n 0) .nil)))) 0) 3
   (.ite (.bin .eq (.var 2) (.n 0))
    (.ret (.cons (.var 3) .nil))
    (.ret (.cons (.t true) .nil))))))
theorem e18 : (fnVT Try.prog (sgOf sg18) (ltOf lt18) S18 Try.f18 c18).slim (S18.ps.map fun p => p.2.length).sum [] = vt18 := by kernel_rfl

/-! ### 23 -/
def S23 : Sig := ⟨[(true, [.str, .bool, (.sl 48 [.str, .str, (.int .i64), (.int .i64), (.int .i64), (.sl 74 [.str, (.int .i64)])]), (.sl 56 [(.int .i64), (.int .i64), (.int .i64), (.int .i64), .str, (.int .i64), (.int .i64)]), (.sl 50 [.str, (.int .i64)])]), (false, [(.int .i64)]), (false, [(.int .i64)])], [(false, [(.int .i64)])], [], none⟩
noncomputable def c23 : Code := Try.f23.body.getD .skip
theorem b23 : Try.f23.body = some c23 := body_some (by kernel_rfl)
theorem n23 : (Try.f23.name == "runtime.NumGoroutine") = false := by kernel_rfl
def sg23 : List (FuncId × Sig) := [(9, S9), (43, S43), (42, S42)]
def L23_0 : LoopSig := ⟨12300, [],
   ⟨[.any, .any, .any, .any, .any, .any, (.c (.x (.int .i64) (.var 0))), (.c (.x (.sl 3 [(.int .i64)]) (.var 1))), .any, .any, .any, .any, .any, .any, .any, .any, .any, .any, .any, .any, .any, .any, .any, .any, .any, .any, .any, .any, .any, .any, .any, .any, .any, .any, .any, .any, .any, .any, .any, .any, .any, .any, .any, (.c (.x (.sl 3 [(.int .i64)]) (.var 2))), (.c (.x (.int .i64) (.var 3))), (.c (.x (.int .i64) (.var 4))), .any, .any, .any, .any, .any, .any, .any, .any],
    [none]⟩,
   5, [0, 4], [46, 47, 48, 9, 49, 50, 51, 52, 6, 53, 45], [.ret, (.exit 0)], []⟩
def lt23 : List (Nat × LoopSig) := [(5, L23_0)]
theorem k23 : (Code.loops c23).length = 1 := by kernel_rfl
noncomputable def lb23_0 : Code := (Code.loops c23).getD 0 .skip
def rt23_0 : VT :=
  (.ite (.bin .lt (.var 4) (.var 3))
   (.need (.t true) (.c (.bin .le (.n 0) (.var 4)))
   (.need (.t true) (.c (.bin .lt (.var 4) (.un .len (.var 2))))
   (.need (.t true) (.pre 42 (.cons (.var 1) (.cons (.sel 0 (.var 2) (.var 4)) .nil)))
   (.lt (.app 42 (.cons (.var 1) (.cons (.sel 0 (.var 2) (.var 4)) .nil)) 0) 1
   (.ite (.var 5)
    (.ret (.cons (.n 0) (.cons (.sel 0 (.var 2) (.var 4)) (.cons (.var 4) .nil))))
    (.ret (.cons (.n (-1)) (.cons (.var 0) (.cons (.bin (.add .i64) (.var 4) (.n 1)) .nil)))))))))
   (.ret (.cons (.n 1) (.cons (.var 0) (.cons (.var 4) .nil)))))
theorem le23_0 : (loopVT Try.prog (sgOf sg23) (ltOf lt23) L23_0 lb23_0).slim L23_0.nv [] = rt23_0 := by kernel_rfl
theorem lf23_0 : (firstRegion lb23_0).bind (ltOf lt23) = some L23_0 := by kernel_rfl
theorem lk23_0 : (Code.loops lb23_0).length = 0 := by kernel_rfl
def vt23 : VT :=
  (.need (.t true) (.pre 9 (.cons (.var 0) (.cons (.var 1) (.cons (.var 2) (.cons (.var 3) (.cons (.var 4) .nil))))))
  (.lt (.app 9 (.cons (.var 0) (.cons (.var 1) (.cons (.var 2) (.cons (.var 3) (.cons (.var 4) .nil))))) 0) 1
  (.ite (.ite (.ite (.un .not (.bin .eq (.var 7) (.n 0))) (.t true) (.bin .lt (.bin .min (.var 5) (.var 6)) (.n 0))) (.t true) (.bin .le (.un .len (.var 2)) (.bin .max (.var 5) (.var 6))))
   (.ret (.cons (.n (-1)) .nil))
   (.need (.t true) (.c (.bin .le (.n 0) (.var 6)))
   (.need (.t true) (.c (.bin .lt (.var 6) (.un .len (.var 2))))
   (.need (.t true) (.pre 43 (.cons (.var 0) (.cons (.var 1) (.cons (.var 2) (.cons (.var 3) (.cons (.var 4) (.cons (.sel 4 (.var 2) (.var 6)) .nil)))))))
   (.lt (.app 43 (.cons (.var 0) (.cons (.var 1) (.cons (.var 2) (.cons (.var 3) (.cons (.var 4) (.cons (.sel 4 (.var 2) (.var 6)) .nil)))))) 0) 1
   (.need (.t true) (.c (.bin .le (.n 0) (.var 5)))
   (.need (.t true) (.c (.bin .lt (.var 5) (.un .len (.var 2))))
   (.need (.t true) (.pre 43 (.cons (.var 0) (.cons (.var 1) (.cons (.var 2) (.cons (.var 3) (.cons (.var 4) (.cons (.sel 4 (.var 2) (.var 5)) .nil)))))))
   (.lt (.app 43 (.cons (.var 0) (.cons (.var 1) (.cons (.var 2) (.cons (.var 3) (.cons (.var 4) (.cons (.sel 4 (.var 2) (.var 5)) .nil)))))) 0) 1
   (.need (.t true) (.pre 12300 (.cons (.n 0) (.cons (.var 8) (.cons (.var 9) (.cons (.un .len (.var 9)) (.cons (.n 0) .nil))))))
   (.lt (.app 12300 (.cons (.n 0) (.cons (.var 8) (.cons (.var 9) (.cons (.un .len (.var 9)) (.cons (.n 0) .nil))))) 0) 3
   (.ite (.bin .eq (.var 10) (.n 0))
    (.ret (.cons (.var 11) .nil))
    (.ret (.cons (.n (-1)) .nil))))))))))))))))
theorem e23 : (fnVT Try.prog (sgOf sg23) (ltOf lt23) S23 Try.f23 c23).slim (S23.ps.map fun p => p.2.length).sum [] = vt23 := by kernel_rfl

/-! ### 21 -/
def S21 : Sig := ⟨[(true, [.str, .bool, (.sl 48 [.str, .str, (.int .i64), (.int .i64), (.int .i64), (.sl 74 [.str, (.int .i64)])]), (.sl 56 [(.int .i64), (.int .i64), (.int .i64), (.int .i64), .str, (.int .i64), (.int .i64)]), (.sl 50 [.str, (.int .i64)])]), (false, [(.int .i64)])], [(false, [(.int .i64)])], [], none⟩
noncomputable def c21 : Code := Try.f21.body.getD .skip
theorem b21 : Try.f21.body = some c21 := body_some (by kernel_rfl)
theorem n21 : (Try.f21.name == "runtime.NumGoroutine") = false := by kernel_rfl
def sg21 : List (FuncId × Sig) := [(9, S9), (45, S45)]
def lt21 : List (Nat × LoopSig) := []
theorem k21 : (Code.loops c21).length = 0 := by kernel_rfl
def vt21 : VT :=
  (.need (.t true) (.pre 9 (.cons (.var 0) (.cons (.var 1) (.cons (.var 2) (.cons (.var 3) (.cons (.var 4) .nil))))))
  (.lt (.app 9 (.cons (.var 0) (.cons (.var 1) (.cons (.var 2) (.cons (.var 3) (.cons (.var 4) .nil))))) 0) 1
  (.ite (.ite (.ite (.un .not (.bin .eq (.var 6) (.n 0))) (.t true) (.bin .lt (.var 5) (.n (-1)))) (.t true) (.bin .le (.un .len (.var 4)) (.var 5)))
   (.ret (.cons (.n 0) .nil))
   (.need (.t true) (.pre 45 (.cons (.var 0) (.cons (.var 1) (.cons (.var 2) (.cons (.var 3) (.cons (.var 4) (.cons (.var 5) .nil)))))))
   (.lt (.app 45 (.cons (.var 0) (.cons (.var 1) (.cons (.var 2) (.cons (.var 3) (.cons (.var 4) (.cons (.var 5) .nil)))))) 0) 1
   (.ret (.cons (.var 7) .nil)))))))
theorem e21 : (fnVT Try.prog (sgOf sg21) (ltOf lt21) S21 Try.f21 c21).slim (S21.ps.map fun p => p.2.length).sum [] = vt21 := by kernel_rfl

/-! ### 37 -/
def S37 : Sig := ⟨[(false, [(.sl 48 [.str, .str, (.int .i64), (.int .i64), (.int .i64), (.sl 74 [.str, (.int .i64)])])]), (false, [(.sl 48 [.str, .str, (.int .i64), (.int .i64), (.int .i64), (.sl 74 [.str, (.int .i64)])])]), (false, [.clo])], [(false, [.bool])], [], none⟩
noncomputable def c37 : Code := Try.f37.body.getD .skip
theorem b37 : Try.f37.body = some c37 := body_some (by kernel_rfl)
theorem n37 : (Try.f37.name == "runtime.NumGoroutine") = false := by kernel_rfl
def sg37 : List (FuncId × Sig) := [(69049, S69049)]
def L37_0 : LoopSig := ⟨13700, [],
   ⟨[.any, (.c (.x (.sl 48 [.str, .str, (.int .i64), (.int .i64), (.int .i64), (.sl 74 [.str, (.int .i64)])]) (.var 0))), (.c (.x .clo (.var 1))), .any, .any, .any, (.c (.x .bool (.var 2))), .any, .any, .any, .any, .any, .any, .any, .any, (.c (.x (.sl 48 [.str, .str, (.int .i64), (.int .i64), (.int .i64), (.sl 74 [.str, (.int .i64)])]) (.var 3))), (.c (.x (.int .i64) (.var 4))), (.c (.x (.int .i64) (.var 5))), .any, .any, .any, .any, .any, .any, .any, .any, .any, .any, .any, .any, .any, .any],
    []⟩,
   6, [2, 5], [18, 19, 20, 21, 8, 7, 22, 23, 24, 25, 9, 26, 27, 28, 29, 30, 6, 31, 17], [.ret, (.exit 0)], []⟩
def lt37 : List (Nat × LoopSig) := [(4, L37_0)]
theorem k37 : (Code.loops c37).length = 1 := by kernel_rfl
noncomputable def lb37_0 : Code := (Code.loops c37).getD 0 .skip
def rt37_0 : VT :=
  (.ite (.bin .lt (.var 5) (.var 4))
   (.need (.t true) (.c (.bin .le (.n 0) (.var 5)))
   (.need (.t true) (.c (.bin .lt (.var 5) (.un .len (.var 3))))
   (.need (.t true) (.c (.bin .lt (.var 5) (.un .len (.var 0))))
   (.need (.t true) (.pre 69049 (.cons (.var 1) (.cons (.sel 0 (.var 3) (.var 5)) (.cons (.sel 1 (.var 3) (.var 5)) (.cons (.sel 2 (.var 3) (.var 5)) (.cons (.sel 3 (.var 3) (.var 5)) (.cons (.sel 4 (.var 3) (.var 5)) (.cons (.sel 5 (.var 3) (.var 5)) (.cons (.sel 0 (.var 0) (.var 5)) (.cons (.sel 1 (.var 0) (.var 5)) (.cons (.sel 2 (.var 0) (.var 5)) (.cons (.sel 3 (.var 0) (.var 5)) (.cons (.sel 4 (.var 0) (.var 5)) (.cons (.sel 5 (.var 0) (.var 5)) .nil))))))))))))))
   (.lt (.app 69049 (.cons (.var 1) (.cons (.sel 0 (.var 3) (.var 5)) (.cons (.sel 1 (.var 3) (.var 5)) (.cons (.sel 2 (.var 3) (.var 5)) (.cons (.sel 3 (.var 3) (.var 5)) (.cons (.sel 4 (.var 3) (.var 5)) (.cons (.sel 5 (.var 3) (.var 5)) (.cons (.sel 0 (.var 0) (.var 5)) (.cons (.sel 1 (.var 0) (.var 5)) (.cons (.sel 2 (.var 0) (.var 5)) (.cons (.sel 3 (.var 0) (.var 5)) (.cons (.sel 4 (.var 0) (.var 5)) (.cons (.sel 5 (.var 0) (.var 5)) .nil))))))))))))) 0) 1
   (.ite (.un .not (.var 6))
    (.ret (.cons (.n 0) (.cons (.t false) (.cons (.var 5) .nil))))
    (.ret (.cons (.n (-1)) (.cons (.var 2) (.cons (.bin (.add .i64) (.var 5) (.n 1)) .nil))))))))))
   (.ret (.cons (.n 1) (.cons (.var 2) (.cons (.var 5) .nil)))))
theorem le37_0 : (loopVT Try.prog (sgOf sg37) (ltOf lt37) L37_0 lb37_0).slim L37_0.nv [] = rt37_0 := by kernel_rfl
theorem lf37_0 : (firstRegion lb37_0).bind (ltOf lt37) = some L37_0 := by kernel_rfl
theorem lk37_0 : (Code.loops lb37_0).length = 0 := by kernel_rfl
def vt37 : VT :=
  (.ite (.un .not (.bin .eq (.un .len (.var 0)) (.un .len (.var 1))))
   (.ret (.cons (.t false) .nil))
   (.need (.t true) (.pre 13700 (.cons (.var 1) (.cons (.var 2) (.cons (.t false) (.cons (.var 0) (.cons (.un .len (.var 0)) (.cons (.n 0) .nil)))))))
   (.lt (.app 13700 (.cons (.var 1) (.cons (.var 2) (.cons (.t false) (.cons (.var 0) (.cons (.un .len (.var 0)) (.cons (.n 0) .nil)))))) 0) 3
   (.ite (.bin .eq (.var 3) (.n 0))
    (.ret (.cons (.var 4) .nil))
    (.ret (.cons (.t true) .nil))))))
theorem e37 : (fnVT Try.prog (sgOf sg37) (ltOf lt37) S37 Try.f37 c37).slim (S37.ps.map fun p => p.2.length).sum [] = vt37 := by kernel_rfl

/-! ### 39 -/
def S39 : Sig := ⟨[(false, [(.sl 56 [(.int .i64), (.int .i64), (.int .i64), (.int .i64), .str, (.int .i64), (.int .i64)])]), (false, [(.sl 56 [(.int .i64), (.int .i64), (.int .i64), (.int .i64), .str, (.int .i64), (.int .i64)])])], [(false, [.bool])], [], none⟩
noncomputable def c39 : Code := Try.f39.body.getD .skip
theorem b39 : Try.f39.body = some c39 := body_some (by kernel_rfl)
theorem n39 : (Try.f39.name == "runtime.NumGoroutine") = false := by kernel_rfl
def sg39 : List (FuncId × Sig) := []
def L39_0 : LoopSig := ⟨13900, [],
   ⟨[(.c (.x (.sl 56 [(.int .i64), (.int .i64), (.int .i64), (.int .i64), .str, (.int .i64), (.int .i64)]) (.var 0))), (.c (.x (.sl 56 [(.int .i64), (.int .i64), (.int .i64), (.int .i64), .str, (.int .i64), (.int .i64)]) (.var 1))), .any, .any, (.c (.x .bool (.var 2))), .any, .any, .any, .any, .any, .any, .any, (.c (.x (.int .i64) (.var 3))), (.c (.x (.int .i64) (.var 4))), .any, .any, .any, .any, .any, .any, .any, .any, .any, .any, .any, .any],
    []⟩,
   5, [2, 4], [14, 15, 5, 16, 17, 18, 19, 20, 21, 22, 23, 24, 4, 25, 13], [.ret, (.exit 0)], []⟩
def lt39 : List (Nat × LoopSig) := [(4, L39_0)]
theorem k39 : (Code.loops c39).length = 1 := by kernel_rfl
noncomputable def lb39_0 : Code := (Code.loops c39).getD 0 .skip
def rt39_0 : VT :=
  (.ite (.bin .lt (.var 4) (.var 3))
   (.need (.t true) (.c (.bin .le (.n 0) (.var 4)))
   (.need (.t true) (.c (.bin .lt (.var 4) (.un .len (.var 0))))
   (.need (.t true) (.c (.bin .lt (.var 4) (.un .len (.var 1))))
   (.ite (.un .not (.ite (.bin .eq (.sel 0 (.var 0) (.var 4)) (.sel 0 (.var 1) (.var 4))) (.ite (.bin .eq (.sel 1 (.var 0) (.var 4)) (.sel 1 (.var 1) (.var 4))) (.ite (.bin .eq (.sel 2 (.var 0) (.var 4)) (.sel 2 (.var 1) (.var 4))) (.ite (.bin .eq (.sel 3 (.var 0) (.var 4)) (.sel 3 (.var 1) (.var 4))) (.ite (.bin .seq (.sel 4 (.var 0) (.var 4)) (.sel 4 (.var 1) (.var 4))) (.ite (.bin .eq (.sel 5 (.var 0) (.var 4)) (.sel 5 (.var 1) (.var 4))) (.bin .eq (.sel 6 (.var 0) (.var 4)) (.sel 6 (.var 1) (.var 4))) (.t false)) (.t false)) (.t false)) (.t false)) (.t false)) (.t false)))
    (.ret (.cons (.n 0) (.cons (.t false) (.cons (.var 4) .nil))))
    (.ret (.cons (.n (-1)) (.cons (.var 2) (.cons (.bin (.add .i64) (.var 4) (.n 1)) .nil))))))))
   (.ret (.cons (.n 1) (.cons (.var 2) (.cons (.var 4) .nil)))))
theorem le39_0 : (loopVT Try.prog (sgOf sg39) (ltOf lt39) L39_0 lb39_0).slim L39_0.nv [] = rt39_0 := by kernel_rfl
theorem lf39_0 : (firstRegion lb39_0).bind (ltOf lt39) = some L39_0 := by kernel_rfl
theorem lk39_0 : (Code.loops lb39_0).length = 0 := by kernel_rfl
def vt39 : VT :=
  (.ite (.un .not (.bin .eq (.un .len (.var 0)) (.un .len (.var 1))))
   (.ret (.cons (.t false) .nil))
   (.need (.t true) (.pre 13900 (.cons (.var 0) (.cons (.var 1) (.cons (.t false) (.cons (.un .len (.var 0)) (.cons (.n 0) .nil))))))
   (.lt (.app 13900 (.cons (.var 0) (.cons (.var 1) (.cons (.t false) (.cons (.un .len (.var 0)) (.cons (.n 0) .nil))))) 0) 3
   (.ite (.bin .eq (.var 2) (.n 0))
    (.ret (.cons (.var 3) .nil))
    (.ret (.cons (.t true) .nil))))))
theorem e39 : (fnVT Try.prog (sgOf sg39) (ltOf lt39) S39 Try.f39 c39).slim (S39.ps.map fun p => p.2.length).sum [] = vt39 := by kernel_rfl

/-! ### 40 -/
def S40 : Sig := ⟨[(false, [(.sl 50 [.str, (.int .i64)])]), (false, [(.sl 50 [.str, (.int .i64)])])], [(false, [.bool])], [], none⟩
noncomputable def c40 : Code := Try.f40.body.getD .skip
theorem b40 : Try.f40.body = some c40 := body_some (by kernel_rfl)
theorem n40 : (Try.f40.name == "runtime.NumGoroutine") = false := by kernel_rfl
def sg40 : List (FuncId × Sig) := []
def L40_0 : LoopSig := ⟨14000, [],
   ⟨[(.c (.x (.sl 50 [.str, (.int .i64)]) (.var 0))), (.c (.x (.sl 50 [.str, (.int .i64)]) (.var 1))), .any, .any, (.c (.x .bool (.var 2))), .any, .any, .any, .any, .any, .any, .any, (.c (.x (.int .i64) (.var 3))), (.c (.x (.int .i64) (.var 4))), .any, .any, .any, .any, .any, .any, .any, .any, .any, .any, .any, .any],
    []⟩,
   5, [2, 4], [14, 15, 5, 16, 17, 18, 19, 20, 21, 22, 23, 24, 4, 25, 13], [.ret, (.exit 0)], []⟩
def lt40 : List (Nat × LoopSig) := [(4, L40_0)]
theorem k40 : (Code.loops c40).length = 1 := by kernel_rfl
noncomputable def lb40_0 : Code := (Code.loops c40).getD 0 .skip
def rt40_0 : VT :=
  (.ite (.bin .lt (.var 4) (.var 3))
   (.need (.t true) (.c (.bin .le (.n 0) (.var 4)))
   (.need (.t true) (.c (.bin .lt (.var 4) (.un .len (.var 0))))
   (.need (.t true) (.c (.bin .lt (.var 4) (.un .len (.var 1))))
   (.ite (.un .not (.ite (.bin .seq (.sel 0 (.var 0) (.var 4)) (.sel 0 (.var 1) (.var 4))) (.bin .eq (.sel 1 (.var 0) (.var 4)) (.sel 1 (.var 1) (.var 4))) (.t false)))
    (.ret (.cons (.n 0) (.cons (.t false) (.cons (.var 4) .nil))))
    (.ret (.cons (.n (-1)) (.cons (.var 2) (.cons (.bin (.add .i64) (.var 4) (.n 1)) .nil))))))))
   (.ret (.cons (.n 1) (.cons (.var 2) (.cons (.var 4) .nil)))))
theorem le40_0 : (loopVT Try.prog (sgOf sg40) (ltOf lt40) L40_0 lb40_0).slim L40_0.nv [] = rt40_0 := by kernel_rfl
theorem lf40_0 : (firstRegion lb40_0).bind (ltOf lt40) = some L40_0 := by kernel_rfl
theorem lk40_0 : (Code.loops lb40_0).length = 0 := by kernel_rfl
def vt40 : VT :=
  (.ite (.un .not (.bin .eq (.un .len (.var 0)) (.un .len (.var 1))))
   (.ret (.cons (.t false) .nil))
   (.need (.t true) (.pre 14000 (.cons (.var 0) (.cons (.var 1) (.cons (.t false) (.cons (.un .len (.var 0)) (.cons (.n 0) .nil))))))
   (.lt (.app 14000 (.cons (.var 0) (.cons (.var 1) (.cons (.t false) (.cons (.un .len (.var 0)) (.cons (.n 0) .nil))))) 0) 3
   (.ite (.bin .eq (.var 2) (.n 0))
    (.ret (.cons (.var 3) .nil))
    (.ret (.cons (.t true) .nil))))))
theorem e40 : (fnVT Try.prog (sgOf sg40) (ltOf lt40) S40 Try.f40 c40).slim (S40.ps.map fun p => p.2.length).sum [] = vt40 := by kernel_rfl

/-! ### 58 -/
def S58 : Sig := ⟨[(false, [(.sl 74 [.str, (.int .i64)])]), (false, [(.sl 74 [.str, (.int .i64)])])], [(false, [.bool])], [], none⟩
noncomputable def c58 : Code := Try.f58.body.getD .skip
theorem b58 : Try.f58.body = some c58 := body_some (by kernel_rfl)
theorem n58 : (Try.f58.name == "runtime.NumGoroutine") = false := by kernel_rfl
def sg58 : List (FuncId × Sig) := []
def L58_0 : LoopSig := ⟨15800, [],
   ⟨[(.c (.x (.sl 74 [.str, (.int .i64)]) (.var 0))), (.c (.x (.sl 74 [.str, (.int .i64)]) (.var 1))), .any, .any, (.c (.x .bool (.var 2))), .any, .any, .any, .any, .any, .any, .any, (.c (.x (.int .i64) (.var 3))), (.c (.x (.int .i64) (.var 4))), .any, .any, .any, .any, .any, .any, .any, .any, .any, .any, .any, .any],
    []⟩,
   5, [2, 4], [14, 15, 5, 16, 17, 18, 19, 20, 21, 22, 23, 24, 4, 25, 13], [.ret, (.exit 0)], []⟩
def lt58 : List (Nat × LoopSig) := [(4, L58_0)]
theorem k58 : (Code.loops c58).length = 1 := by kernel_rfl
noncomputable def lb58_0 : Code := (Code.loops c58).getD 0 .skip
def rt58_0 : VT :=
  (.ite (.bin .lt (.var 4) (.var 3))
   (.need (.t true) (.c (.bin .le (.n 0) (.var 4)))
   (.need (.t true) (.c (.bin .lt (.var 4) (.un .len (.var 0))))
   (.need (.t true) (.c (.bin .lt (.var 4) (.un .len (.var 1))))
   (.ite (.un .not (.ite (.bin .seq (.sel 0 (.var 0) (.var 4)) (.sel 0 (.var 1) (.var 4))) (.bin .eq (.sel 1 (.var 0) (.var 4)) (.sel 1 (.var 1) (.var 4))) (.t false)))
    (.ret (.cons (.n 0) (.cons (.t false) (.cons (.var 4) .nil))))
    (.ret (.cons (.n (-1)) (.cons (.var 2) (.cons (.bin (.add .i64) (.var 4) (.n 1)) .nil))))))))
   (.ret (.cons (.n 1) (.cons (.var 2) (.cons (.var 4) .nil)))))
theorem le58_0 : (loopVT Try.prog (sgOf sg58) (ltOf lt58) L58_0 lb58_0).slim L58_0.nv [] = rt58_0 := by kernel_rfl
theorem lf58_0 : (firstRegion lb58_0).bind (ltOf lt58) = some L58_0 := by kernel_rfl
theorem lk58_0 : (Code.loops lb58_0).length = 0 := by kernel_rfl
def vt58 : VT :=
  (.ite (.un .not (.bin .eq (.un .len (.var 0)) (.un .len (.var 1))))
   (.ret (.cons (.t false) .nil))
   (.need (.t true) (.pre 15800 (.cons (.var 0) (.cons (.var 1) (.cons (.t false) (.cons (.un .len (.var 0)) (.cons (.n 0) .nil))))))
   (.lt (.app 15800 (.cons (.var 0) (.cons (.var 1) (.cons (.t false) (.cons (.un .len (.var 0)) (.cons (.n 0) .nil))))) 0) 3
   (.ite (.bin .eq (.var 2) (.n 0))
    (.ret (.cons (.var 3) .nil))
    (.ret (.cons (.t true) .nil))))))
theorem e58 : (fnVT Try.prog (sgOf sg58) (ltOf lt58) S58 Try.f58 c58).slim (S58.ps.map fun p => p.2.length).sum [] = vt58 := by kernel_rfl

/-! ### 38 -/
def S38 : Sig := ⟨[(true, [.str, .str, (.int .i64), (.int .i64), (.int .i64), (.sl 74 [.str, (.int .i64)])]), (true, [.str, .str, (.int .i64), (.int .i64), (.int .i64), (.sl 74 [.str, (.int .i64)])])], [(false, [.bool])], [], none⟩
noncomputable def c38 : Code := Try.f38.body.getD .skip
theorem b38 : Try.f38.body = some c38 := body_some (by kernel_rfl)
theorem n38 : (Try.f38.name == "runtime.NumGoroutine") = false := by kernel_rfl
def sg38 : List (FuncId × Sig) := [(58, S58)]
def lt38 : List (Nat × LoopSig) := []
theorem k38 : (Code.loops c38).length = 0 := by kernel_rfl
def vt38 : VT :=
  (.need (.ite (.ite (.ite (.ite (.bin .seq (.var 0) (.var 6)) (.bin .seq (.var 1) (.var 7)) (.t false)) (.bin .eq (.var 2) (.var 8)) (.t false)) (.bin .eq (.var 3) (.var 9)) (.t false)) (.bin .eq (.var 4) (.var 10)) (.t false)) (.pre 58 (.cons (.var 5) (.cons (.var 11) .nil)))
  (.lt (.app 58 (.cons (.var 5) (.cons (.var 11) .nil)) 0) 1
  (.ret (.cons (.ite (.ite (.ite (.ite (.ite (.bin .seq (.var 0) (.var 6)) (.bin .seq (.var 1) (.var 7)) (.t false)) (.bin .eq (.var 2) (.var 8)) (.t false)) (.bin .eq (.var 3) (.var 9)) (.t false)) (.bin .eq (.var 4) (.var 10)) (.t false)) (.var 12) (.t false)) .nil))))
theorem e38 : (fnVT Try.prog (sgOf sg38) (ltOf lt38) S38 Try.f38 c38).slim (S38.ps.map fun p => p.2.length).sum [] = vt38 := by kernel_rfl

/-! ### 16 -/
def S16 : Sig := ⟨[(true, [.str, .bool, (.sl 48 [.str, .str, (.int .i64), (.int .i64), (.int .i64), (.sl 74 [.str, (.int .i64)])]), (.sl 56 [(.int .i64), (.int .i64), (.int .i64), (.int .i64), .str, (.int .i64), (.int .i64)]), (.sl 50 [.str, (.int .i64)])]), (true, [.str, .bool, (.sl 48 [.str, .str, (.int .i64), (.int .i64), (.int .i64), (.sl 74 [.str, (.int .i64)])]), (.sl 56 [(.int .i64), (.int .i64), (.int .i64), (.int .i64), .str, (.int .i64), (.int .i64)]), (.sl 50 [.str, (.int .i64)])])], [(false, [.bool])], [], none⟩
noncomputable def c16 : Code := Try.f16.body.getD .skip
theorem b16 : Try.f16.body = some c16 := body_some (by kernel_rfl)
theorem n16 : (Try.f16.name == "runtime.NumGoroutine") = false := by kernel_rfl
def sg16 : List (FuncId × Sig) := [(37, S37), (39, S39), (40, S40)]
def lt16 : List (Nat × LoopSig) := []
theorem k16 : (Code.loops c16).length = 0 := by kernel_rfl
def vt16 : VT :=
  (.need (.ite (.bin .seq (.var 0) (.var 5)) (.bin .beq (.var 1) (.var 6)) (.t false)) (.pre 37 (.cons (.var 2) (.cons (.var 7) (.cons (.clo 38 [] .nil) .nil))))
  (.lt (.app 37 (.cons (.var 2) (.cons (.var 7) (.cons (.clo 38 [] .nil) .nil))) 0) 1
  (.need (.ite (.ite (.bin .seq (.var 0) (.var 5)) (.bin .beq (.var 1) (.var 6)) (.t false)) (.var 10) (.t false)) (.pre 39 (.cons (.var 3) (.cons (.var 8) .nil)))
  (.lt (.app 39 (.cons (.var 3) (.cons (.var 8) .nil)) 0) 1
  (.need (.ite (.ite (.ite (.bin .seq (.var 0) (.var 5)) (.bin .beq (.var 1) (.var 6)) (.t false)) (.var 10) (.t false)) (.var 11) (.t false)) (.pre 40 (.cons (.var 4) (.cons (.var 9) .nil)))
  (.lt (.app 40 (.cons (.var 4) (.cons (.var 9) .nil)) 0) 1
  (.ret (.cons (.ite (.ite (.ite (.ite (.bin .seq (.var 0) (.var 5)) (.bin .beq (.var 1) (.var 6)) (.t false)) (.var 10) (.t false)) (.var 11) (.t false)) (.var 12) (.t false)) .nil))))))))
theorem e16 : (fnVT Try.prog (sgOf sg16) (ltOf lt16) S16 Try.f16 c16).slim (S16.ps.map fun p => p.2.length).sum [] = vt16 := by kernel_rfl

/-! ### 8 -/
def S8 : Sig := ⟨[], [(false, [.bool])], [], none⟩
noncomputable def c8 : Code := Try.f8.body.getD .skip
theorem b8 : Try.f8.body = some c8 := body_some (by kernel_rfl)
theorem n8 : (Try.f8.name == "runtime.NumGoroutine") = false := by kernel_rfl
def sg8 : List (FuncId × Sig) := [(26, S26), (14, S14), (9, S9), (19, S19), (18, S18), (23, S23), (21, S21), (11, S11), (16, S16)]
def lt8 : List (Nat × LoopSig) := []
theorem k8 : (Code.loops c8).length = 0 := by kernel_rfl
def vt8 : VT :=
  (.need (.t true) (.pre 26 .nil)
  (.lt (.app 26 .nil 0) 5
  (.need (.t true) (.pre 14 (.cons (.var 0) (.cons (.var 1) (.cons (.var 2) (.cons (.var 3) (.cons (.var 4) .nil))))))
  (.lt (.app 14 (.cons (.var 0) (.cons (.var 1) (.cons (.var 2) (.cons (.var 3) (.cons (.var 4) .nil))))) 0) 2
  (.need (.t true) (.pre 9 (.cons (.str ⟨#[]⟩) (.cons (.t false) (.cons .lnil (.cons .lnil (.cons .lnil .nil))))))
  (.lt (.app 9 (.cons (.str ⟨#[]⟩) (.cons (.t false) (.cons .lnil (.cons .lnil (.cons .lnil .nil))))) 0) 1
  (.need (.bin .eq (.var 7) (.n 5)) (.pre 9 (.cons (.var 0) (.cons (.var 1) (.cons (.var 2) (.cons (.var 3) (.cons (.var 4) .nil))))))
  (.lt (.app 9 (.cons (.var 0) (.cons (.var 1) (.cons (.var 2) (.cons (.var 3) (.cons (.var 4) .nil))))) 0) 1
  (.need (.ite (.bin .eq (.var 7) (.n 5)) (.bin .eq (.var 8) (.n 0)) (.t false)) (.pre 19 (.cons (.var 0) (.cons (.var 1) (.cons (.var 2) (.cons (.var 3) (.cons (.var 4) (.cons (.n 0) .nil)))))))
  (.lt (.app 19 (.cons (.var 0) (.cons (.var 1) (.cons (.var 2) (.cons (.var 3) (.cons (.var 4) (.cons (.n 0) .nil)))))) 0) 1
  (.need (.ite (.bin .eq (.var 7) (.n 5)) (.bin .eq (.var 8) (.n 0)) (.t false)) (.pre 18 (.cons (.var 9) (.cons (.lcons (.cons (.n 0) .nil) (.lcons (.cons (.n 1) .nil) .lnil)) .nil)))
  (.lt (.app 18 (.cons (.var 9) (.cons (.lcons (.cons (.n 0) .nil) (.lcons (.cons (.n 1) .nil) .lnil)) .nil)) 0) 1
  (.need (.ite (.ite (.bin .eq (.var 7) (.n 5)) (.bin .eq (.var 8) (.n 0)) (.t false)) (.var 10) (.t false)) (.pre 19 (.cons (.var 0) (.cons (.var 1) (.cons (.var 2) (.cons (.var 3) (.cons (.var 4) (.cons (.n 1) .nil)))))))
  (.lt (.app 19 (.cons (.var 0) (.cons (.var 1) (.cons (.var 2) (.cons (.var 3) (.cons (.var 4) (.cons (.n 1) .nil)))))) 0) 1
  (.need (.ite (.ite (.bin .eq (.var 7) (.n 5)) (.bin .eq (.var 8) (.n 0)) (.t false)) (.var 10) (.t false)) (.pre 18 (.cons (.var 11) (.cons (.lcons (.cons (.n 1) .nil) .lnil) .nil)))
  (.lt (.app 18 (.cons (.var 11) (.cons (.lcons (.cons (.n 1) .nil) .lnil) .nil)) 0) 1
  (.need (.ite (.ite (.ite (.bin .eq (.var 7) (.n 5)) (.bin .eq (.var 8) (.n 0)) (.t false)) (.var 10) (.t false)) (.var 12) (.t false)) (.pre 23 (.cons (.var 0) (.cons (.var 1) (.cons (.var 2) (.cons (.var 3) (.cons (.var 4) (.cons (.n 0) (.cons (.n 1) .nil))))))))
  (.lt (.app 23 (.cons (.var 0) (.cons (.var 1) (.cons (.var 2) (.cons (.var 3) (.cons (.var 4) (.cons (.n 0) (.cons (.n 1) .nil))))))) 0) 1
  (.need (.ite (.ite (.ite (.ite (.bin .eq (.var 7) (.n 5)) (.bin .eq (.var 8) (.n 0)) (.t false)) (.var 10) (.t false)) (.var 12) (.t false)) (.bin .eq (.var 13) (.n 0)) (.t false)) (.pre 21 (.cons (.var 0) (.cons (.var 1) (.cons (.var 2) (.cons (.var 3) (.cons (.var 4) (.cons (.n 1) .nil)))))))
  (.lt (.app 21 (.cons (.var 0) (.cons (.var 1) (.cons (.var 2) (.cons (.var 3) (.cons (.var 4) (.cons (.n 1) .nil)))))) 0) 1
  (.need (.ite (.ite (.ite (.ite (.ite (.bin .eq (.var 7) (.n 5)) (.bin .eq (.var 8) (.n 0)) (.t false)) (.var 10) (.t false)) (.var 12) (.t false)) (.bin .eq (.var 13) (.n 0)) (.t false)) (.bin .eq (.var 14) (.n 2)) (.t false)) (.pre 11 (.cons (.var 0) (.cons (.var 1) (.cons (.var 2) (.cons (.var 3) (.cons (.var 4) (.cons (.str ⟨#[121]⟩) .nil)))))))
  (.lt (.app 11 (.cons (.var 0) (.cons (.var 1) (.cons (.var 2) (.cons (.var 3) (.cons (.var 4) (.cons (.str ⟨#[121]⟩) .nil)))))) 0) 1
  (.need (.ite (.ite (.ite (.ite (.ite (.ite (.ite (.ite (.bin .eq (.var 7) (.n 5)) (.bin .eq (.var 8) (.n 0)) (.t false)) (.var 10) (.t false)) (.var 12) (.t false)) (.bin .eq (.var 13) (.n 0)) (.t false)) (.bin .eq (.var 14) (.n 2)) (.t false)) (.bin .eq (.var 15) (.n 1)) (.t false)) (.bin .eq (.var 5) (.n 2)) (.t false)) (.bin .eq (.un .len (.var 6)) (.n 1)) (.t false)) (.pre 16 (.cons (.var 0) (.cons (.var 1) (.cons (.var 2) (.cons (.var 3) (.cons (.var 4) (.cons (.var 0) (.cons (.var 1) (.cons (.var 2) (.cons (.var 3) (.cons (.var 4) .nil)))))))))))
  (.lt (.app 16 (.cons (.var 0) (.cons (.var 1) (.cons (.var 2) (.cons (.var 3) (.cons (.var 4) (.cons (.var 0) (.cons (.var 1) (.cons (.var 2) (.cons (.var 3) (.cons (.var 4) .nil)))))))))) 0) 1
  (.need (.ite (.ite (.ite (.ite (.ite (.ite (.ite (.ite (.ite (.bin .eq (.var 7) (.n 5)) (.bin .eq (.var 8) (.n 0)) (.t false)) (.var 10) (.t false)) (.var 12) (.t false)) (.bin .eq (.var 13) (.n 0)) (.t false)) (.bin .eq (.var 14) (.n 2)) (.t false)) (.bin .eq (.var 15) (.n 1)) (.t false)) (.bin .eq (.var 5) (.n 2)) (.t false)) (.bin .eq (.un .len (.var 6)) (.n 1)) (.t false)) (.var 16) (.t false)) (.pre 16 (.cons (.var 0) (.cons (.var 1) (.cons (.var 2) (.cons (.var 3) (.cons (.var 4) (.cons (.str ⟨#[]⟩) (.cons (.t false) (.cons .lnil (.cons .lnil (.cons .lnil .nil)))))))))))
  (.lt (.app 16 (.cons (.var 0) (.cons (.var 1) (.cons (.var 2) (.cons (.var 3) (.cons (.var 4) (.cons (.str ⟨#[]⟩) (.cons (.t false) (.cons .lnil (.cons .lnil (.cons .lnil .nil)))))))))) 0) 1
  (.ret (.cons (.ite (.ite (.ite (.ite (.ite (.ite (.ite (.ite (.ite (.ite (.bin .eq (.var 7) (.n 5)) (.bin .eq (.var 8) (.n 0)) (.t false)) (.var 10) (.t false)) (.var 12) (.t false)) (.bin .eq (.var 13) (.n 0)) (.t false)) (.bin .eq (.var 14) (.n 2)) (.t false)) (.bin .eq (.var 15) (.n 1)) (.t false)) (.bin .eq (.var 5) (.n 2)) (.t false)) (.bin .eq (.un .len (.var 6)) (.n 1)) (.t false)) (.var 16) (.t false)) (.un .not (.var 17)) (.t false)) .nil))))))))))))))))))))))))))))
theorem e8 : (fnVT Try.prog (sgOf sg8) (ltOf lt8) S8 Try.f8 c8).slim (S8.ps.map fun p => p.2.length).sum [] = vt8 := by kernel_rfl

/-! ### 65 -/
def S65 : Sig := ⟨[(false, [(.int .u8)])], [(false, [.bool])], [], none⟩
noncomputable def c65 : Code := Try.f65.body.getD .skip
theorem b65 : Try.f65.body = some c65 := body_some (by kernel_rfl)
theorem n65 : (Try.f65.name == "runtime.NumGoroutine") = false := by kernel_rfl
def sg65 : List (FuncId × Sig) := []
def lt65 : List (Nat × LoopSig) := []
theorem k65 : (Code.loops c65).length = 0 := by kernel_rfl
def vt65 : VT :=
  (.ret (.cons (.ite (.ite (.ite (.bin .le (.n 97) (.var 0)) (.bin .le (.var 0) (.n 122)) (.t false)) (.t true) (.ite (.bin .le (.n 65) (.var 0)) (.bin .le (.var 0) (.n 90)) (.t false))) (.t true) (.bin .eq (.var 0) (.n 95))) .nil))
theorem e65 : (fnVT Try.prog (sgOf sg65) (ltOf lt65) S65 Try.f65 c65).slim (S65.ps.map fun p => p.2.length).sum [] = vt65 := by kernel_rfl
def T65 : FuncId → List D → List D := tabOf []
def fn65 (ρ : List D) : List D := vt65.val T65 ρ
theorem m65 : Meets Try.prog 65 S65 (fun _ => True) fn65 := meets_easy (sgl := sg65) (Φ := T65) mixed ((fun _ h => nomatch h)) Try.func65 b65 n65 k65 e65 (by kernel_rfl)

/-! ### 66 -/
def S66 : Sig := ⟨[(false, [(.int .u8)])], [(false, [.bool])], [], none⟩
noncomputable def c66 : Code := Try.f66.body.getD .skip
theorem b66 : Try.f66.body = some c66 := body_some (by kernel_rfl)
theorem n66 : (Try.f66.name == "runtime.NumGoroutine") = false := by kernel_rfl
def sg66 : List (FuncId × Sig) := []
def lt66 : List (Nat × LoopSig) := []
theorem k66 : (Code.loops c66).length = 0 := by kernel_rfl
def vt66 : VT :=
  (.ret (.cons (.ite (.bin .le (.n 48) (.var 0)) (.bin .le (.var 0) (.n 57)) (.t false)) .nil))
theorem e66 : (fnVT Try.prog (sgOf sg66) (ltOf lt66) S66 Try.f66 c66).slim (S66.ps.map fun p => p.2.length).sum [] = vt66 := by kernel_rfl
def T66 : FuncId → List D → List D := tabOf []
def fn66 (ρ : List D) : List D := vt66.val T66 ρ
theorem m66 : Meets Try.prog 66 S66 (fun _ => True) fn66 := meets_easy (sgl := sg66) (Φ := T66) mixed ((fun _ h => nomatch h)) Try.func66 b66 n66 k66 e66 (by kernel_rfl)

/-! ### 54 -/
def S54 : Sig := ⟨[(false, [.str])], [(false, [(.int .i64)])], [], none⟩
noncomputable def c54 : Code := Try.f54.body.getD .skip
theorem b54 : Try.f54.body = some c54 := body_some (by kernel_rfl)
theorem n54 : (Try.f54.name == "runtime.NumGoroutine") = false := by kernel_rfl
def sg54 : List (FuncId × Sig) := [(65, S65), (66, S66)]
def L54_0 : LoopSig := ⟨15400, [],
   ⟨[(.c (.x .str (.var 0))), .any, .any, (.c (.x (.int .i64) (.var 1))), .any, .any, .any, .any, .any, .any, .any, .any, .any, .any, .any, .any, .any, .any, .any, .any, .any, .any, .any, .any, .any, .any, .any],
    []⟩,
   2, [1], [4, 5, 6, 7, 8, 9, 10, 11, 12, 13, 14, 15, 16, 17, 18, 19, 20, 21, 22, 23, 24, 25, 3], [(.exit 0)], []⟩
def lt54 : List (Nat × LoopSig) := [(2, L54_0)]
theorem k54 : (Code.loops c54).length = 1 := by kernel_rfl
noncomputable def lb54_0 : Code := (Code.loops c54).getD 0 .skip
def rt54_0 : VT :=
  (.need (.bin .lt (.var 1) (.un .slen (.var 0))) (.c (.bin .le (.n 0) (.var 1)))
  (.need (.bin .lt (.var 1) (.un .slen (.var 0))) (.c (.bin .lt (.var 1) (.un .slen (.var 0))))
  (.need (.bin .lt (.var 1) (.un .slen (.var 0))) (.pre 65 (.cons (.bin .sidx (.var 0) (.var 1)) .nil))
  (.lt (.app 65 (.cons (.bin .sidx (.var 0) (.var 1)) .nil) 0) 1
  (.need (.ite (.ite (.bin .lt (.var 1) (.un .slen (.var 0))) (.un .not (.var 2)) (.t false)) (.bin .lt (.n 0) (.var 1)) (.t false)) (.c (.bin .le (.n 0) (.var 1)))
  (.need (.ite (.ite (.bin .lt (.var 1) (.un .slen (.var 0))) (.un .not (.var 2)) (.t false)) (.bin .lt (.n 0) (.var 1)) (.t false)) (.c (.bin .lt (.var 1) (.un .slen (.var 0))))
  (.need (.ite (.ite (.bin .lt (.var 1) (.un .slen (.var 0))) (.un .not (.var 2)) (.t false)) (.bin .lt (.n 0) (.var 1)) (.t false)) (.pre 66 (.cons (.bin .sidx (.var 0) (.var 1)) .nil))
  (.lt (.app 66 (.cons (.bin .sidx (.var 0) (.var 1)) .nil) 0) 1
  (.ite (.ite (.bin .lt (.var 1) (.un .slen (.var 0))) (.ite (.var 2) (.t true) (.ite (.bin .lt (.n 0) (.var 1)) (.var 3) (.t false))) (.t false))
   (.ret (.cons (.n (-1)) (.cons (.bin (.add .i64) (.var 1) (.n 1)) .nil)))
   (.ret (.cons (.n 0) (.cons (.var 1) .nil))))))))))))
theorem le54_0 : (loopVT Try.prog (sgOf sg54) (ltOf lt54) L54_0 lb54_0).slim L54_0.nv [] = rt54_0 := by kernel_rfl
theorem lf54_0 : (firstRegion lb54_0).bind (ltOf lt54) = some L54_0 := by kernel_rfl
theorem lk54_0 : (Code.loops lb54_0).length = 0 := by kernel_rfl
def vt54 : VT :=
  (.need (.t true) (.pre 15400 (.cons (.var 0) (.cons (.n 0) .nil)))
  (.lt (.app 15400 (.cons (.var 0) (.cons (.n 0) .nil)) 0) 2
  (.ret (.cons (.var 2) .nil))))
theorem e54 : (fnVT Try.prog (sgOf sg54) (ltOf lt54) S54 Try.f54 c54).slim (S54.ps.map fun p => p.2.length).sum [] = vt54 := by kernel_rfl

/-! ### 55 -/
def S55 : Sig := ⟨[(false, [.str])], [(false, [.bool])], [], none⟩
noncomputable def c55 : Code := Try.f55.body.getD .skip
theorem b55 : Try.f55.body = some c55 := body_some (by kernel_rfl)
theorem n55 : (Try.f55.name == "runtime.NumGoroutine") = false := by kernel_rfl
def sg55 : List (FuncId × Sig) := []
def lt55 : List (Nat × LoopSig) := []
theorem k55 : (Code.loops c55).length = 0 := by kernel_rfl
def vt55 : VT :=
  (.ite (.bin .seq (.var 0) (.str ⟨#[100, 105, 103, 114, 97, 112, 104]⟩))
   (.ret (.cons (.t true) .nil))
   (.ite (.bin .seq (.var 0) (.str ⟨#[103, 114, 97, 112, 104]⟩))
    (.ret (.cons (.t true) .nil))
    (.ite (.bin .seq (.var 0) (.str ⟨#[110, 111, 100, 101]⟩))
     (.ret (.cons (.t true) .nil))
     (.ite (.bin .seq (.var 0) (.str ⟨#[101, 100, 103, 101]⟩))
      (.ret (.cons (.t true) .nil))
      (.ite (.bin .seq (.var 0) (.str ⟨#[115, 101, 116]⟩))
       (.ret (.cons (.t true) .nil))
       (.ite (.bin .seq (.var 0) (.str ⟨#[99, 108, 117, 115, 116, 101, 114]⟩))
        (.ret (.cons (.t true) .nil))
        (.ret (.cons (.t false) .nil))))))))
theorem e55 : (fnVT Try.prog (sgOf sg55) (ltOf lt55) S55 Try.f55 c55).slim (S55.ps.map fun p => p.2.length).sum [] = vt55 := by kernel_rfl
def T55 : FuncId → List D → List D := tabOf []
def fn55 (ρ : List D) : List D := vt55.val T55 ρ
theorem m55 : Meets Try.prog 55 S55 (fun _ => True) fn55 := meets_easy (sgl := sg55) (Φ := T55) mixed ((fun _ h => nomatch h)) Try.func55 b55 n55 k55 e55 (by kernel_rfl)

/-! ### 31 -/
def S31 : Sig := ⟨[(false, [.str])], [(false, [.bool])], [], none⟩
noncomputable def c31 : Code := Try.f31.body.getD .skip
theorem b31 : Try.f31.body = some c31 := body_some (by kernel_rfl)
theorem n31 : (Try.f31.name == "runtime.NumGoroutine") = false := by kernel_rfl
def sg31 : List (FuncId × Sig) := [(54, S54), (55, S55)]
def lt31 : List (Nat × LoopSig) := []
theorem k31 : (Code.loops c31).length = 0 := by kernel_rfl
def vt31 : VT :=
  (.need (.un .not (.bin .seq (.var 0) (.str ⟨#[]⟩))) (.pre 54 (.cons (.var 0) .nil))
  (.lt (.app 54 (.cons (.var 0) .nil) 0) 1
  (.need (.ite (.ite (.un .not (.bin .seq (.var 0) (.str ⟨#[]⟩))) (.bin .eq (.var 1) (.un .slen (.var 0))) (.t false)) (.bin .le (.un .slen (.var 0)) (.n 16)) (.t false)) (.pre 55 (.cons (.var 0) .nil))
  (.lt (.app 55 (.cons (.var 0) .nil) 0) 1
  (.ret (.cons (.ite (.ite (.ite (.un .not (.bin .seq (.var 0) (.str ⟨#[]⟩))) (.bin .eq (.var 1) (.un .slen (.var 0))) (.t false)) (.bin .le (.un .slen (.var 0)) (.n 16)) (.t false)) (.un .not (.var 2)) (.t false)) .nil))))))
theorem e31 : (fnVT Try.prog (sgOf sg31) (ltOf lt31) S31 Try.f31 c31).slim (S31.ps.map fun p => p.2.length).sum [] = vt31 := by kernel_rfl

/-! ### 12 -/
def S12 : Sig := ⟨[(true, [.str, .bool, (.sl 48 [.str, .str, (.int .i64), (.int .i64), (.int .i64), (.sl 74 [.str, (.int .i64)])]), (.sl 56 [(.int .i64), (.int .i64), (.int .i64), (.int .i64), .str, (.int .i64), (.int .i64)]), (.sl 50 [.str, (.int .i64)])]), (false, [.str])], [(false, [(.int .i64)])], [], none⟩
noncomputable def c12 : Code := Try.f12.body.getD .skip
theorem b12 : Try.f12.body = some c12 := body_some (by kernel_rfl)
theorem n12 : (Try.f12.name == "runtime.NumGoroutine") = false := by kernel_rfl
def sg12 : List (FuncId × Sig) := []
def L12_0 : LoopSig := ⟨11200, [],
   ⟨[.any, (.c (.x .str (.var 0))), (.c (.ptr 0 0)), .any, (.c (.x (.int .i64) (.var 1))), (.c (.x (.int .i64) (.var 2))), .any, .any, .any, .any, .any, .any, .any, .any, .any, .any, .any, .any, .any, .any, .any, .any],
    [some ⟨(.t true), (.box 26 [(.x .str (.var 3)), (.x .bool (.var 4)), (.x (.sl 48 [.str, .str, (.int .i64), (.int .i64), (.int .i64), (.sl 74 [.str, (.int .i64)])]) (.var 5)), (.x (.sl 56 [(.int .i64), (.int .i64), (.int .i64), (.int .i64), .str, (.int .i64), (.int .i64)]) (.var 6)), (.x (.sl 50 [.str, (.int .i64)]) (.var 7))] false)⟩]⟩,
   8, [1, 2], [6, 7, 8, 9, 10, 13, 14, 15, 16, 17, 18, 19, 20, 21, 4, 11, 12, 5], [.ret, (.exit 0)], []⟩
def lt12 : List (Nat × LoopSig) := [(2, L12_0)]
theorem k12 : (Code.loops c12).length = 1 := by kernel_rfl
noncomputable def lb12_0 : Code := (Code.loops c12).getD 0 .skip
def rt12_0 : VT :=
  (.ite (.bin .lt (.var 2) (.un .len (.var 5)))
   (.need (.t true) (.c (.bin .le (.n 0) (.var 2)))
   (.ite (.bin .seq (.sel 0 (.var 5) (.var 2)) (.var 0))
    (.ret (.cons (.n 0) (.cons (.var 2) (.cons (.var 2) .nil))))
    (.ret (.cons (.n (-1)) (.cons (.var 1) (.cons (.bin (.add .i64) (.var 2) (.n 1)) .nil))))))
   (.ret (.cons (.n 1) (.cons (.var 1) (.cons (.var 2) .nil)))))
theorem le12_0 : (loopVT Try.prog (sgOf sg12) (ltOf lt12) L12_0 lb12_0).slim L12_0.nv [] = rt12_0 := by kernel_rfl
theorem lf12_0 : (firstRegion lb12_0).bind (ltOf lt12) = some L12_0 := by kernel_rfl
theorem lk12_0 : (Code.loops lb12_0).length = 0 := by kernel_rfl
def vt12 : VT :=
  (.need (.t true) (.pre 11200 (.cons (.var 5) (.cons (.n 0) (.cons (.n 0) (.cons (.var 0) (.cons (.var 1) (.cons (.var 2) (.cons (.var 3) (.cons (.var 4) .nil)))))))))
  (.lt (.app 11200 (.cons (.var 5) (.cons (.n 0) (.cons (.n 0) (.cons (.var 0) (.cons (.var 1) (.cons (.var 2) (.cons (.var 3) (.cons (.var 4) .nil)))))))) 0) 3
  (.ite (.bin .eq (.var 6) (.n 0))
   (.ret (.cons (.var 7) .nil))
   (.ret (.cons (.n (-1)) .nil)))))
theorem e12 : (fnVT Try.prog (sgOf sg12) (ltOf lt12) S12 Try.f12 c12).slim (S12.ps.map fun p => p.2.length).sum [] = vt12 := by kernel_rfl

/-! ### 56 -/
def S56 : Sig := ⟨[(false, [.str])], [(false, [.bool])], [], none⟩
noncomputable def c56 : Code := Try.f56.body.getD .skip
theorem b56 : Try.f56.body = some c56 := body_some (by kernel_rfl)
theorem n56 : (Try.f56.name == "runtime.NumGoroutine") = false := by kernel_rfl
def sg56 : List (FuncId × Sig) := []
def L56_0 : LoopSig := ⟨15600, [],
   ⟨[(.c (.x .str (.var 0))), .any, (.c (.x .bool (.var 1))), (.c (.x (.int .i64) (.var 2))), .any, .any, .any, .any, .any, .any, .any, .any, .any, .any, .any, .any, .any, .any, .any, .any],
    []⟩,
   3, [1, 2], [4, 5, 6, 7, 10, 11, 12, 13, 14, 15, 16, 17, 18, 19, 2, 8, 9, 3], [.ret, (.exit 0)], []⟩
def lt56 : List (Nat × LoopSig) := [(2, L56_0)]
theorem k56 : (Code.loops c56).length = 1 := by kernel_rfl
noncomputable def lb56_0 : Code := (Code.loops c56).getD 0 .skip
def rt56_0 : VT :=
  (.ite (.bin .lt (.var 2) (.un .slen (.var 0)))
   (.need (.t true) (.c (.bin .le (.n 0) (.var 2)))
   (.ite (.ite (.bin .lt (.bin .sidx (.var 0) (.var 2)) (.n 32)) (.t true) (.bin .lt (.n 126) (.bin .sidx (.var 0) (.var 2))))
    (.ret (.cons (.n 0) (.cons (.t false) (.cons (.var 2) .nil))))
    (.ret (.cons (.n (-1)) (.cons (.var 1) (.cons (.bin (.add .i64) (.var 2) (.n 1)) .nil))))))
   (.ret (.cons (.n 1) (.cons (.var 1) (.cons (.var 2) .nil)))))
theorem le56_0 : (loopVT Try.prog (sgOf sg56) (ltOf lt56) L56_0 lb56_0).slim L56_0.nv [] = rt56_0 := by kernel_rfl
theorem lf56_0 : (firstRegion lb56_0).bind (ltOf lt56) = some L56_0 := by kernel_rfl
theorem lk56_0 : (Code.loops lb56_0).length = 0 := by kernel_rfl
def vt56 : VT :=
  (.need (.t true) (.pre 15600 (.cons (.var 0) (.cons (.t false) (.cons (.n 0) .nil))))
  (.lt (.app 15600 (.cons (.var 0) (.cons (.t false) (.cons (.n 0) .nil))) 0) 3
  (.ite (.bin .eq (.var 1) (.n 0))
   (.ret (.cons (.var 2) .nil))
   (.ret (.cons (.t true) .nil)))))
theorem e56 : (fnVT Try.prog (sgOf sg56) (ltOf lt56) S56 Try.f56 c56).slim (S56.ps.map fun p => p.2.length).sum [] = vt56 := by kernel_rfl

/-! ### 57 -/
def S57 : Sig := ⟨[(false, [(.sl 74 [.str, (.int .i64)])])], [(false, [(.int .i64)])], [], none⟩
noncomputable def c57 : Code := Try.f57.body.getD .skip
theorem b57 : Try.f57.body = some c57 := body_some (by kernel_rfl)
theorem n57 : (Try.f57.name == "runtime.NumGoroutine") = false := by kernel_rfl
def sg57 : List (FuncId × Sig) := [(31, S31)]
def L57_0 : LoopSig := ⟨15701, [],
   ⟨[(.c (.x (.sl 74 [.str, (.int .i64)]) (.var 0))), .any, (.c (.x (.int .i64) (.var 1))), (.c (.x (.int .i64) (.var 2))), .any, .any, .any, .any, .any, .any, .any, .any, .any, .any, .any, .any, .any, .any, .any, .any, .any, .any, .any, .any, .any, .any, .any, .any, .any, .any, .any, .any, .any, .any, .any, .any, .any, .any, .any, .any, .any, .any, .any, .any, .any, .any, .any, .any],
    []⟩,
   3, [1, 2], [5, 6, 7, 8, 11, 12, 13, 14, 15, 16, 17, 2, 4, 18, 19, 20, 23, 24, 25, 26, 27, 28, 29, 30, 31, 32, 33, 21, 22, 34, 35, 36, 37, 38, 39, 40, 41, 42, 43, 44, 45, 46, 47, 9, 10, 3], [.ret, (.exit 0)], []⟩
def L57_1 : LoopSig := ⟨15700, [],
   ⟨[(.c (.x (.sl 74 [.str, (.int .i64)]) (.var 0))), .any, (.c (.x (.int .i64) (.var 1))), (.c (.x (.int .i64) (.var 2))), (.c (.x (.int .i64) (.var 3))), .any, .any, .any, .any, .any, .any, .any, .any, .any, .any, .any, .any, .any, .any, .any, .any, .any, .any, .any, .any, .any, .any, .any, .any, .any, .any, .any, .any, .any, .any, .any, .any, .any, .any, .any, .any, .any, .any, .any, .any, .any, .any, .any],
    []⟩,
   4, [1, 3], [18, 19, 20, 23, 24, 25, 26, 27, 28, 29, 30, 31, 32, 33, 2, 21, 22, 4], [.ret, (.exit 2)], []⟩
def lt57 : List (Nat × LoopSig) := [(2, L57_0), (7, L57_1)]
theorem k57 : (Code.loops c57).length = 2 := by kernel_rfl
noncomputable def lb57_0 : Code := (Code.loops c57).getD 0 .skip
noncomputable def lb57_1 : Code := (Code.loops c57).getD 1 .skip
def rt57_0 : VT :=
  (.ite (.bin .lt (.var 2) (.un .len (.var 0)))
   (.need (.t true) (.c (.bin .le (.n 0) (.var 2)))
   (.need (.t true) (.pre 31 (.cons (.sel 0 (.var 0) (.var 2)) .nil))
   (.lt (.app 31 (.cons (.sel 0 (.var 0) (.var 2)) .nil) 0) 1
   (.ite (.un .not (.var 3))
    (.ret (.cons (.n 0) (.cons (.n 5) (.cons (.var 2) .nil))))
    (.need (.t true) (.pre 15700 (.cons (.var 0) (.cons (.var 1) (.cons (.var 2) (.cons (.n 0) .nil)))))
    (.lt (.app 15700 (.cons (.var 0) (.cons (.var 1) (.cons (.var 2) (.cons (.n 0) .nil)))) 0) 3
    (.ite (.bin .eq (.var 4) (.n 0))
     (.ret (.cons (.n 0) (.cons (.var 5) (.cons (.var 2) .nil))))
     (.ite (.ite (.bin .lt (.sel 1 (.var 0) (.var 2)) (.n 0)) (.t true) (.bin .lt (.n 3) (.sel 1 (.var 0) (.var 2))))
      (.ret (.cons (.n 0) (.cons (.n 7) (.cons (.var 2) .nil))))
      (.ret (.cons (.n (-1)) (.cons (.var 5) (.cons (.bin (.add .i64) (.var 2) (.n 1)) .nil))))))))))))
   (.ret (.cons (.n 1) (.cons (.var 1) (.cons (.var 2) .nil)))))
theorem le57_0 : (loopVT Try.prog (sgOf sg57) (ltOf lt57) L57_0 lb57_0).slim L57_0.nv [] = rt57_0 := by kernel_rfl
theorem lf57_0 : (firstRegion lb57_0).bind (ltOf lt57) = some L57_0 := by kernel_rfl
theorem lk57_0 : (Code.loops lb57_0).length = 1 := by kernel_rfl
theorem li57_0_0 : (Code.loops lb57_0).getD 0 .skip = lb57_1 := by kernel_rfl
def rt57_1 : VT :=
  (.ite (.bin .lt (.var 3) (.var 2))
   (.need (.t true) (.c (.bin .le (.n 0) (.var 3)))
   (.need (.t true) (.c (.bin .lt (.var 3) (.un .len (.var 0))))
   (.need (.t true) (.c (.bin .le (.n 0) (.var 2)))
   (.need (.t true) (.c (.bin .lt (.var 2) (.un .len (.var 0))))
   (.ite (.bin .seq (.sel 0 (.var 0) (.var 3)) (.sel 0 (.var 0) (.var 2)))
    (.ret (.cons (.n 0) (.cons (.n 6) (.cons (.var 3) .nil))))
    (.ret (.cons (.n (-1)) (.cons (.var 1) (.cons (.bin (.add .i64) (.var 3) (.n 1)) .nil)))))))))
   (.ret (.cons (.n 1) (.cons (.var 1) (.cons (.var 3) .nil)))))
theorem le57_1 : (loopVT Try.prog (sgOf sg57) (ltOf lt57) L57_1 lb57_1).slim L57_1.nv [] = rt57_1 := by kernel_rfl
theorem lf57_1 : (firstRegion lb57_1).bind (ltOf lt57) = some L57_1 := by kernel_rfl
theorem lk57_1 : (Code.loops lb57_1).length = 0 := by kernel_rfl
def vt57 : VT :=
  (.need (.t true) (.pre 15701 (.cons (.var 0) (.cons (.n 0) (.cons (.n 0) .nil))))
  (.lt (.app 15701 (.cons (.var 0) (.cons (.n 0) (.cons (.n 0) .nil))) 0) 3
  (.ite (.bin .eq (.var 1) (.n 0))
   (.ret (.cons (.var 2) .nil))
   (.ret (.cons (.n 0) .nil)))))
theorem e57 : (fnVT Try.prog (sgOf sg57) (ltOf lt57) S57 Try.f57 c57).slim (S57.ps.map fun p => p.2.length).sum [] = vt57 := by kernel_rfl

/-! ### 32 -/
def S32 : Sig := ⟨[(true, [.str, .bool, (.sl 48 [.str, .str, (.int .i64), (.int .i64), (.int .i64), (.sl 74 [.str, (.int .i64)])]), (.sl 56 [(.int .i64), (.int .i64), (.int .i64), (.int .i64), .str, (.int .i64), (.int .i64)]), (.sl 50 [.str, (.int .i64)])]), (false, [(.int .i64)])], [(false, [(.int .i64)])], [], none⟩
noncomputable def c32 : Code := Try.f32.body.getD .skip
theorem b32 : Try.f32.body = some c32 := body_some (by kernel_rfl)
theorem n32 : (Try.f32.name == "runtime.NumGoroutine") = false := by kernel_rfl
def sg32 : List (FuncId × Sig) := [(31, S31), (12, S12), (56, S56), (57, S57)]
def lt32 : List (Nat × LoopSig) := []
theorem k32 : (Code.loops c32).length = 0 := by kernel_rfl
def vt32 : VT :=
  (.need (.t true) (.c (.bin .le (.n 0) (.var 5)))
  (.need (.t true) (.c (.bin .lt (.var 5) (.un .len (.var 2))))
  (.need (.t true) (.pre 31 (.cons (.sel 0 (.var 2) (.var 5)) .nil))
  (.lt (.app 31 (.cons (.sel 0 (.var 2) (.var 5)) .nil) 0) 1
  (.ite (.un .not (.var 6))
   (.ret (.cons (.n 5) .nil))
   (.need (.t true) (.pre 12 (.cons (.var 0) (.cons (.var 1) (.cons (.var 2) (.cons (.var 3) (.cons (.var 4) (.cons (.sel 0 (.var 2) (.var 5)) .nil)))))))
   (.lt (.app 12 (.cons (.var 0) (.cons (.var 1) (.cons (.var 2) (.cons (.var 3) (.cons (.var 4) (.cons (.sel 0 (.var 2) (.var 5)) .nil)))))) 0) 1
   (.ite (.un .not (.bin .eq (.var 7) (.var 5)))
    (.ret (.cons (.n 6) .nil))
    (.ite (.bin .lt (.n 32) (.un .slen (.sel 1 (.var 2) (.var 5))))
     (.ret (.cons (.n 2) .nil))
     (.need (.t true) (.pre 56 (.cons (.sel 1 (.var 2) (.var 5)) .nil))
     (.lt (.app 56 (.cons (.sel 1 (.var 2) (.var 5)) .nil) 0) 1
     (.ite (.un .not (.var 8))
      (.ret (.cons (.n 7) .nil))
      (.ite (.ite (.ite (.ite (.ite (.ite (.bin .lt (.sel 2 (.var 2) (.var 5)) (.n 1)) (.t true) (.bin .lt (.n 1048576) (.sel 2 (.var 2) (.var 5)))) (.t true) (.bin .lt (.sel 3 (.var 2) (.var 5)) (.n 1))) (.t true) (.bin .lt (.n 1048576) (.sel 3 (.var 2) (.var 5)))) (.t true) (.bin .lt (.sel 4 (.var 2) (.var 5)) (.n (-1)))) (.t true) (.bin .le (.un .len (.var 4)) (.sel 4 (.var 2) (.var 5))))
       (.ret (.cons (.n 3) .nil))
       (.ite (.bin .lt (.n 8) (.un .len (.sel 5 (.var 2) (.var 5))))
        (.ret (.cons (.n 2) .nil))
        (.need (.t true) (.pre 57 (.cons (.sel 5 (.var 2) (.var 5)) .nil))
        (.lt (.app 57 (.cons (.sel 5 (.var 2) (.var 5)) .nil) 0) 1
        (.ret (.cons (.var 9) .nil))))))))))))))))))
theorem e32 : (fnVT Try.prog (sgOf sg32) (ltOf lt32) S32 Try.f32 c32).slim (S32.ps.map fun p => p.2.length).sum [] = vt32 := by kernel_rfl

/-! ### 46 -/
def S46 : Sig := ⟨[(true, [.str, .bool, (.sl 48 [.str, .str, (.int .i64), (.int .i64), (.int .i64), (.sl 74 [.str, (.int .i64)])]), (.sl 56 [(.int .i64), (.int .i64), (.int .i64), (.int .i64), .str, (.int .i64), (.int .i64)]), (.sl 50 [.str, (.int .i64)])]), (false, [(.int .i64)])], [(false, [(.int .i64)])], [], none⟩
noncomputable def c46 : Code := Try.f46.body.getD .skip
theorem b46 : Try.f46.body = some c46 := body_some (by kernel_rfl)
theorem n46 : (Try.f46.name == "runtime.NumGoroutine") = false := by kernel_rfl
def sg46 : List (FuncId × Sig) := []
def L46_0 : LoopSig := ⟨14600, [],
   ⟨[.any, (.c (.x (.int .i64) (.var 0))), (.c (.ptr 0 0)), .any, .any, (.c (.x (.int .i64) (.var 1))), .any, .any, .any, .any, .any, .any, .any, .any, .any, .any, .any],
    [some ⟨(.t true), (.box 26 [(.x .str (.var 2)), (.x .bool (.var 3)), (.x (.sl 48 [.str, .str, (.int .i64), (.int .i64), (.int .i64), (.sl 74 [.str, (.int .i64)])]) (.var 4)), (.x (.sl 56 [(.int .i64), (.int .i64), (.int .i64), (.int .i64), .str, (.int .i64), (.int .i64)]) (.var 5)), (.x (.sl 50 [.str, (.int .i64)]) (.var 6))] false)⟩]⟩,
   7, [0, 1], [6, 7, 8, 9, 5, 10, 11, 12, 13, 14, 15, 1], [(.exit 0)], []⟩
def lt46 : List (Nat × LoopSig) := [(2, L46_0)]
theorem k46 : (Code.loops c46).length = 1 := by kernel_rfl
noncomputable def lb46_0 : Code := (Code.loops c46).getD 0 .skip
def rt46_0 : VT :=
  (.ite (.bin .le (.n 0) (.var 0))
   (.need (.t true) (.c (.bin .lt (.var 0) (.un .len (.var 6))))
   (.ret (.cons (.n (-1)) (.cons (.sel 1 (.var 6) (.var 0)) (.cons (.bin (.add .i64) (.var 1) (.n 1)) .nil)))))
   (.ret (.cons (.n 0) (.cons (.var 0) (.cons (.var 1) .nil)))))
theorem le46_0 : (loopVT Try.prog (sgOf sg46) (ltOf lt46) L46_0 lb46_0).slim L46_0.nv [] = rt46_0 := by kernel_rfl
theorem lf46_0 : (firstRegion lb46_0).bind (ltOf lt46) = some L46_0 := by kernel_rfl
theorem lk46_0 : (Code.loops lb46_0).length = 0 := by kernel_rfl
def vt46 : VT :=
  (.need (.t true) (.pre 14600 (.cons (.var 5) (.cons (.n 0) (.cons (.var 0) (.cons (.var 1) (.cons (.var 2) (.cons (.var 3) (.cons (.var 4) .nil))))))))
  (.lt (.app 14600 (.cons (.var 5) (.cons (.n 0) (.cons (.var 0) (.cons (.var 1) (.cons (.var 2) (.cons (.var 3) (.cons (.var 4) .nil))))))) 0) 3
  (.ret (.cons (.var 8) .nil))))
theorem e46 : (fnVT Try.prog (sgOf sg46) (ltOf lt46) S46 Try.f46 c46).slim (S46.ps.map fun p => p.2.length).sum [] = vt46 := by kernel_rfl

/-! ### 33 -/
def S33 : Sig := ⟨[(true, [.str, .bool, (.sl 48 [.str, .str, (.int .i64), (.int .i64), (.int .i64), (.sl 74 [.str, (.int .i64)])]), (.sl 56 [(.int .i64), (.int .i64), (.int .i64), (.int .i64), .str, (.int .i64), (.int .i64)]), (.sl 50 [.str, (.int .i64)])]), (false, [(.int .i64)])], [(false, [(.int .i64)])], [], none⟩
noncomputable def c33 : Code := Try.f33.body.getD .skip
theorem b33 : Try.f33.body = some c33 := body_some (by kernel_rfl)
theorem n33 : (Try.f33.name == "runtime.NumGoroutine") = false := by kernel_rfl
def sg33 : List (FuncId × Sig) := [(31, S31), (12, S12), (46, S46)]
def L33_0 : LoopSig := ⟨13300, [],
   ⟨[.any, (.c (.x (.int .i64) (.var 0))), (.c (.ptr 0 0)), .any, (.c (.x (.int .i64) (.var 1))), (.c (.ptr 1 0)), (.c (.x (.int .i64) (.var 2))), .any, .any, .any, .any, .any, .any, .any, .any, .any, .any, .any, .any, .any, .any, .any, .any, .any, .any, .any, .any, .any, .any, .any, .any, .any, .any, .any, .any, .any, .any, .any, .any, .any, .any, .any, .any, .any, .any, .any, .any, .any],
    [some ⟨(.t true), (.box 26 [(.x .str (.var 3)), (.x .bool (.var 4)), (.x (.sl 48 [.str, .str, (.int .i64), (.int .i64), (.int .i64), (.sl 74 [.str, (.int .i64)])]) (.var 5)), (.x (.sl 56 [(.int .i64), (.int .i64), (.int .i64), (.int .i64), .str, (.int .i64), (.int .i64)]) (.var 6)), (.x (.sl 50 [.str, (.int .i64)]) (.var 7))] false)⟩, some ⟨(.t true), (.box 50 [(.x .str (.var 8)), (.x (.int .i64) (.var 9))] false)⟩]⟩,
   10, [1, 2], [16, 17, 18, 21, 22, 23, 24, 25, 26, 27, 28, 29, 4, 19, 20, 6], [.ret, (.exit 0)], []⟩
def lt33 : List (Nat × LoopSig) := [(5, L33_0)]
theorem k33 : (Code.loops c33).length = 1 := by kernel_rfl
noncomputable def lb33_0 : Code := (Code.loops c33).getD 0 .skip
def rt33_0 : VT :=
  (.ite (.bin .lt (.var 2) (.var 0))
   (.need (.t true) (.c (.bin .le (.n 0) (.var 2)))
   (.need (.t true) (.c (.bin .lt (.var 2) (.un .len (.var 7))))
   (.ite (.bin .seq (.sel 0 (.var 7) (.var 2)) (.var 8))
    (.ret (.cons (.n 0) (.cons (.n 6) (.cons (.var 2) .nil))))
    (.ret (.cons (.n (-1)) (.cons (.var 1) (.cons (.bin (.add .i64) (.var 2) (.n 1)) .nil)))))))
   (.ret (.cons (.n 1) (.cons (.var 1) (.cons (.var 2) .nil)))))
theorem le33_0 : (loopVT Try.prog (sgOf sg33) (ltOf lt33) L33_0 lb33_0).slim L33_0.nv [] = rt33_0 := by kernel_rfl
theorem lf33_0 : (firstRegion lb33_0).bind (ltOf lt33) = some L33_0 := by kernel_rfl
theorem lk33_0 : (Code.loops lb33_0).length = 0 := by kernel_rfl
def vt33 : VT :=
  (.need (.t true) (.c (.bin .le (.n 0) (.var 5)))
  (.need (.t true) (.c (.bin .lt (.var 5) (.un .len (.var 4))))
  (.need (.t true) (.pre 31 (.cons (.sel 0 (.var 4) (.var 5)) .nil))
  (.lt (.app 31 (.cons (.sel 0 (.var 4) (.var 5)) .nil) 0) 1
  (.ite (.un .not (.var 6))
   (.ret (.cons (.n 5) .nil))
   (.need (.t true) (.pre 13300 (.cons (.var 5) (.cons (.n 0) (.cons (.n 0) (.cons (.var 0) (.cons (.var 1) (.cons (.var 2) (.cons (.var 3) (.cons (.var 4) (.cons (.sel 0 (.var 4) (.var 5)) (.cons (.sel 1 (.var 4) (.var 5)) .nil)))))))))))
   (.lt (.app 13300 (.cons (.var 5) (.cons (.n 0) (.cons (.n 0) (.cons (.var 0) (.cons (.var 1) (.cons (.var 2) (.cons (.var 3) (.cons (.var 4) (.cons (.sel 0 (.var 4) (.var 5)) (.cons (.sel 1 (.var 4) (.var 5)) .nil)))))))))) 0) 3
   (.ite (.bin .eq (.var 7) (.n 0))
    (.ret (.cons (.var 8) .nil))
    (.need (.t true) (.pre 12 (.cons (.var 0) (.cons (.var 1) (.cons (.var 2) (.cons (.var 3) (.cons (.var 4) (.cons (.sel 0 (.var 4) (.var 5)) .nil)))))))
    (.lt (.app 12 (.cons (.var 0) (.cons (.var 1) (.cons (.var 2) (.cons (.var 3) (.cons (.var 4) (.cons (.sel 0 (.var 4) (.var 5)) .nil)))))) 0) 1
    (.ite (.bin .le (.n 0) (.var 10))
     (.ret (.cons (.n 6) .nil))
     (.ite (.ite (.bin .lt (.sel 1 (.var 4) (.var 5)) (.n (-1))) (.t true) (.bin .le (.var 5) (.sel 1 (.var 4) (.var 5))))
      (.ret (.cons (.n 3) .nil))
      (.need (.t true) (.pre 46 (.cons (.var 0) (.cons (.var 1) (.cons (.var 2) (.cons (.var 3) (.cons (.var 4) (.cons (.var 5) .nil)))))))
      (.lt (.app 46 (.cons (.var 0) (.cons (.var 1) (.cons (.var 2) (.cons (.var 3) (.cons (.var 4) (.cons (.var 5) .nil)))))) 0) 1
      (.ite (.bin .lt (.n 6) (.var 11))
       (.ret (.cons (.n 2) .nil))
       (.ret (.cons (.n 0) .nil)))))))))))))))))
theorem e33 : (fnVT Try.prog (sgOf sg33) (ltOf lt33) S33 Try.f33 c33).slim (S33.ps.map fun p => p.2.length).sum [] = vt33 := by kernel_rfl

/-! ### 34 -/
def S34 : Sig := ⟨[(true, [.str, .bool, (.sl 48 [.str, .str, (.int .i64), (.int .i64), (.int .i64), (.sl 74 [.str, (.int .i64)])]), (.sl 56 [(.int .i64), (.int .i64), (.int .i64), (.int .i64), .str, (.int .i64), (.int .i64)]), (.sl 50 [.str, (.int .i64)])]), (true, [(.int .i64), (.int .i64), (.int .i64), (.int .i64), .str, (.int .i64), (.int .i64)])], [(false, [(.int .i64)])], [], none⟩
noncomputable def c34 : Code := Try.f34.body.getD .skip
theorem b34 : Try.f34.body = some c34 := body_some (by kernel_rfl)
theorem n34 : (Try.f34.name == "runtime.NumGoroutine") = false := by kernel_rfl
def sg34 : List (FuncId × Sig) := [(56, S56)]
def lt34 : List (Nat × LoopSig) := []
theorem k34 : (Code.loops c34).length = 0 := by kernel_rfl
def vt34 : VT :=
  (.ite (.ite (.ite (.ite (.bin .lt (.var 5) (.n 0)) (.t true) (.bin .le (.un .len (.var 2)) (.var 5))) (.t true) (.bin .lt (.var 6) (.n 0))) (.t true) (.bin .le (.un .len (.var 2)) (.var 6)))
   (.ret (.cons (.n 3) .nil))
   (.need (.un .not (.bin .lt (.var 7) (.n (-1)))) (.c (.bin .le (.n 0) (.var 5)))
   (.need (.un .not (.bin .lt (.var 7) (.n (-1)))) (.c (.bin .lt (.var 5) (.un .len (.var 2))))
   (.need (.un .not (.ite (.ite (.bin .lt (.var 7) (.n (-1))) (.t true) (.bin .le (.un .len (.sel 5 (.var 2) (.var 5))) (.var 7))) (.t true) (.bin .lt (.var 8) (.n (-1))))) (.c (.bin .le (.n 0) (.var 6)))
   (.need (.un .not (.ite (.ite (.bin .lt (.var 7) (.n (-1))) (.t true) (.bin .le (.un .len (.sel 5 (.var 2) (.var 5))) (.var 7))) (.t true) (.bin .lt (.var 8) (.n (-1))))) (.c (.bin .lt (.var 6) (.un .len (.var 2))))
   (.ite (.ite (.ite (.ite (.bin .lt (.var 7) (.n (-1))) (.t true) (.bin .le (.un .len (.sel 5 (.var 2) (.var 5))) (.var 7))) (.t true) (.bin .lt (.var 8) (.n (-1)))) (.t true) (.bin .le (.un .len (.sel 5 (.var 2) (.var 6))) (.var 8)))
    (.ret (.cons (.n 3) .nil))
    (.ite (.bin .lt (.n 32) (.un .slen (.var 9)))
     (.ret (.cons (.n 2) .nil))
     (.need (.t true) (.pre 56 (.cons (.var 9) .nil))
     (.lt (.app 56 (.cons (.var 9) .nil) 0) 1
     (.ite (.ite (.ite (.ite (.ite (.un .not (.var 12)) (.t true) (.bin .lt (.var 10) (.n 1))) (.t true) (.bin .lt (.n 1000) (.var 10))) (.t true) (.bin .lt (.var 11) (.n 1))) (.t true) (.bin .lt (.n 64) (.var 11)))
      (.ret (.cons (.n 7) .nil))
      (.ret (.cons (.n 0) .nil))))))))))))
theorem e34 : (fnVT Try.prog (sgOf sg34) (ltOf lt34) S34 Try.f34 c34).slim (S34.ps.map fun p => p.2.length).sum [] = vt34 := by kernel_rfl

/-! ### 10 -/
def S10 : Sig := ⟨[(true, [.str, .bool, (.sl 48 [.str, .str, (.int .i64), (.int .i64), (.int .i64), (.sl 74 [.str, (.int .i64)])]), (.sl 56 [(.int .i64), (.int .i64), (.int .i64), (.int .i64), .str, (.int .i64), (.int .i64)]), (.sl 50 [.str, (.int .i64)])])], [(false, [(.int .i64)])], [], none⟩
noncomputable def c10 : Code := Try.f10.body.getD .skip
theorem b10 : Try.f10.body = some c10 := body_some (by kernel_rfl)
theorem n10 : (Try.f10.name == "runtime.NumGoroutine") = false := by kernel_rfl
def sg10 : List (FuncId × Sig) := [(31, S31), (32, S32), (33, S33), (34, S34)]
def L10_0 : LoopSig := ⟨11000, [],
   ⟨[.any, (.c (.ptr 0 0)), (.c (.x (.int .i64) (.var 0))), (.c (.x (.int .i64) (.var 1))), .any, .any, .any, .any, .any, .any, .any, .any, .any, .any, .any, .any, .any, .any, .any, .any, .any, .any, .any, .any, .any, .any, .any, .any, .any, .any, .any, .any, .any, .any, .any, .any, .any, .any, .any, .any, .any, .any, .any, .any, .any, .any, .any, .any, .any, .any, .any, .any, .any, .any, .any, .any, .any, .any, .any, .any, .any, .any, .any, .any, .any, .any, .any, .any, .any, .any, .any, .any],
    [some ⟨(.t true), (.box 26 [(.x .str (.var 2)), (.x .bool (.var 3)), (.x (.sl 48 [.str, .str, (.int .i64), (.int .i64), (.int .i64), (.sl 74 [.str, (.int .i64)])]) (.var 4)), (.x (.sl 56 [(.int .i64), (.int .i64), (.int .i64), (.int .i64), .str, (.int .i64), (.int .i64)]) (.var 5)), (.x (.sl 50 [.str, (.int .i64)]) (.var 6))] false)⟩]⟩,
   7, [0, 1], [29, 30, 31, 32, 33, 36, 37, 38, 4, 39, 40, 41, 2, 34, 35, 3], [.ret, (.exit 0)], []⟩
def L10_1 : LoopSig := ⟨11001, [],
   ⟨[.any, (.c (.ptr 0 0)), (.c (.x (.int .i64) (.var 0))), .any, .any, (.c (.x (.int .i64) (.var 1))), .any, .any, .any, .any, .any, .any, .any, .any, .any, .any, .any, .any, .any, .any, .any, .any, .any, .any, .any, .any, .any, .any, .any, .any, .any, .any, .any, .any, .any, .any, .any, .any, .any, .any, .any, .any, .any, .any, .any, .any, .any, .any, .any, .any, .any, .any, .any, .any, .any, .any, .any, .any, .any, .any, .any, .any, .any, .any, .any, .any, .any, .any, .any, .any, .any, .any],
    [some ⟨(.t true), (.box 26 [(.x .str (.var 2)), (.x .bool (.var 3)), (.x (.sl 48 [.str, .str, (.int .i64), (.int .i64), (.int .i64), (.sl 74 [.str, (.int .i64)])]) (.var 4)), (.x (.sl 56 [(.int .i64), (.int .i64), (.int .i64), (.int .i64), .str, (.int .i64), (.int .i64)]) (.var 5)), (.x (.sl 50 [.str, (.int .i64)]) (.var 6))] false)⟩]⟩,
   7, [0, 1], [42, 43, 44, 45, 46, 49, 50, 51, 6, 52, 53, 54, 2, 47, 48, 5], [.ret, (.exit 2)], []⟩
def L10_2 : LoopSig := ⟨11002, [],
   ⟨[.any, (.c (.ptr 0 0)), (.c (.x (.int .i64) (.var 0))), .any, .any, .any, .any, (.c (.x (.int .i64) (.var 1))), .any, .any, .any, .any, .any, .any, .any, .any, .any, .any, .any, .any, .any, .any, .any, .any, .any, .any, .any, .any, .any, .any, .any, .any, .any, .any, .any, .any, .any, .any, .any, .any, .any, .any, .any, .any, .any, .any, .any, .any, .any, .any, .any, .any, .any, .any, .any, .any, .any, .any, .any, .any, .any, .any, .any, .any, .any, .any, .any, .any, .any, .any, .any, .any],
    [some ⟨(.t true), (.box 26 [(.x .str (.var 2)), (.x .bool (.var 3)), (.x (.sl 48 [.str, .str, (.int .i64), (.int .i64), (.int .i64), (.sl 74 [.str, (.int .i64)])]) (.var 4)), (.x (.sl 56 [(.int .i64), (.int .i64), (.int .i64), (.int .i64), .str, (.int .i64), (.int .i64)]) (.var 5)), (.x (.sl 50 [.str, (.int .i64)]) (.var 6))] false)⟩]⟩,
   7, [0, 1], [55, 56, 57, 58, 59, 62, 63, 64, 65, 66, 67, 68, 8, 69, 70, 71, 2, 60, 61, 7], [.ret, (.exit 4)], []⟩
def lt10 : List (Nat × LoopSig) := [(6, L10_0), (12, L10_1), (18, L10_2)]
theorem k10 : (Code.loops c10).length = 3 := by kernel_rfl
noncomputable def lb10_0 : Code := (Code.loops c10).getD 0 .skip
noncomputable def lb10_1 : Code := (Code.loops c10).getD 1 .skip
noncomputable def lb10_2 : Code := (Code.loops c10).getD 2 .skip
def rt10_0 : VT :=
  (.ite (.bin .lt (.var 1) (.un .len (.var 4)))
   (.need (.t true) (.pre 32 (.cons (.var 2) (.cons (.var 3) (.cons (.var 4) (.cons (.var 5) (.cons (.var 6) (.cons (.var 1) .nil)))))))
   (.lt (.app 32 (.cons (.var 2) (.cons (.var 3) (.cons (.var 4) (.cons (.var 5) (.cons (.var 6) (.cons (.var 1) .nil)))))) 0) 1
   (.ite (.un .not (.bin .eq (.var 7) (.n 0)))
    (.ret (.cons (.n 0) (.cons (.var 7) (.cons (.var 1) .nil))))
    (.ret (.cons (.n (-1)) (.cons (.var 0) (.cons (.bin (.add .i64) (.var 1) (.n 1)) .nil)))))))
   (.ret (.cons (.n 1) (.cons (.var 0) (.cons (.var 1) .nil)))))
theorem le10_0 : (loopVT Try.prog (sgOf sg10) (ltOf lt10) L10_0 lb10_0).slim L10_0.nv [] = rt10_0 := by kernel_rfl
theorem lf10_0 : (firstRegion lb10_0).bind (ltOf lt10) = some L10_0 := by kernel_rfl
theorem lk10_0 : (Code.loops lb10_0).length = 0 := by kernel_rfl
def rt10_1 : VT :=
  (.ite (.bin .lt (.var 1) (.un .len (.var 6)))
   (.need (.t true) (.pre 33 (.cons (.var 2) (.cons (.var 3) (.cons (.var 4) (.cons (.var 5) (.cons (.var 6) (.cons (.var 1) .nil)))))))
   (.lt (.app 33 (.cons (.var 2) (.cons (.var 3) (.cons (.var 4) (.cons (.var 5) (.cons (.var 6) (.cons (.var 1) .nil)))))) 0) 1
   (.ite (.un .not (.bin .eq (.var 7) (.n 0)))
    (.ret (.cons (.n 0) (.cons (.var 7) (.cons (.var 1) .nil))))
    (.ret (.cons (.n (-1)) (.cons (.var 0) (.cons (.bin (.add .i64) (.var 1) (.n 1)) .nil)))))))
   (.ret (.cons (.n 1) (.cons (.var 0) (.cons (.var 1) .nil)))))
theorem le10_1 : (loopVT Try.prog (sgOf sg10) (ltOf lt10) L10_1 lb10_1).slim L10_1.nv [] = rt10_1 := by kernel_rfl
theorem lf10_1 : (firstRegion lb10_1).bind (ltOf lt10) = some L10_1 := by kernel_rfl
theorem lk10_1 : (Code.loops lb10_1).length = 0 := by kernel_rfl
def rt10_2 : VT :=
  (.ite (.bin .lt (.var 1) (.un .len (.var 5)))
   (.need (.t true) (.c (.bin .le (.n 0) (.var 1)))
   (.need (.t true) (.pre 34 (.cons (.var 2) (.cons (.var 3) (.cons (.var 4) (.cons (.var 5) (.cons (.var 6) (.cons (.sel 0 (.var 5) (.var 1)) (.cons (.sel 1 (.var 5) (.var 1)) (.cons (.sel 2 (.var 5) (.var 1)) (.cons (.sel 3 (.var 5) (.var 1)) (.cons (.sel 4 (.var 5) (.var 1)) (.cons (.sel 5 (.var 5) (.var 1)) (.cons (.sel 6 (.var 5) (.var 1)) .nil)))))))))))))
   (.lt (.app 34 (.cons (.var 2) (.cons (.var 3) (.cons (.var 4) (.cons (.var 5) (.cons (.var 6) (.cons (.sel 0 (.var 5) (.var 1)) (.cons (.sel 1 (.var 5) (.var 1)) (.cons (.sel 2 (.var 5) (.var 1)) (.cons (.sel 3 (.var 5) (.var 1)) (.cons (.sel 4 (.var 5) (.var 1)) (.cons (.sel 5 (.var 5) (.var 1)) (.cons (.sel 6 (.var 5) (.var 1)) .nil)))))))))))) 0) 1
   (.ite (.un .not (.bin .eq (.var 7) (.n 0)))
    (.ret (.cons (.n 0) (.cons (.var 7) (.cons (.var 1) .nil))))
    (.ret (.cons (.n (-1)) (.cons (.var 0) (.cons (.bin (.add .i64) (.var 1) (.n 1)) .nil))))))))
   (.ret (.cons (.n 1) (.cons (.var 0) (.cons (.var 1) .nil)))))
theorem le10_2 : (loopVT Try.prog (sgOf sg10) (ltOf lt10) L10_2 lb10_2).slim L10_2.nv [] = rt10_2 := by kernel_rfl
theorem lf10_2 : (firstRegion lb10_2).bind (ltOf lt10) = some L10_2 := by kernel_rfl
theorem lk10_2 : (Code.loops lb10_2).length = 0 := by kernel_rfl
def vt10 : VT :=
  (.ite (.ite (.ite (.bin .lt (.n 64) (.un .len (.var 2))) (.t true) (.bin .lt (.n 256) (.un .len (.var 3)))) (.t true) (.bin .lt (.n 16) (.un .len (.var 4))))
   (.ret (.cons (.n 2) .nil))
   (.need (.t true) (.pre 31 (.cons (.var 0) .nil))
   (.lt (.app 31 (.cons (.var 0) .nil) 0) 1
   (.ite (.un .not (.var 5))
    (.ret (.cons (.n 5) .nil))
    (.need (.t true) (.pre 11000 (.cons (.n 0) (.cons (.n 0) (.cons (.var 0) (.cons (.var 1) (.cons (.var 2) (.cons (.var 3) (.cons (.var 4) .nil))))))))
    (.lt (.app 11000 (.cons (.n 0) (.cons (.n 0) (.cons (.var 0) (.cons (.var 1) (.cons (.var 2) (.cons (.var 3) (.cons (.var 4) .nil))))))) 0) 3
    (.ite (.bin .eq (.var 6) (.n 0))
     (.ret (.cons (.var 7) .nil))
     (.need (.t true) (.pre 11001 (.cons (.var 7) (.cons (.n 0) (.cons (.var 0) (.cons (.var 1) (.cons (.var 2) (.cons (.var 3) (.cons (.var 4) .nil))))))))
     (.lt (.app 11001 (.cons (.var 7) (.cons (.n 0) (.cons (.var 0) (.cons (.var 1) (.cons (.var 2) (.cons (.var 3) (.cons (.var 4) .nil))))))) 0) 3
     (.ite (.bin .eq (.var 9) (.n 0))
      (.ret (.cons (.var 10) .nil))
      (.need (.t true) (.pre 11002 (.cons (.var 10) (.cons (.n 0) (.cons (.var 0) (.cons (.var 1) (.cons (.var 2) (.cons (.var 3) (.cons (.var 4) .nil))))))))
      (.lt (.app 11002 (.cons (.var 10) (.cons (.n 0) (.cons (.var 0) (.cons (.var 1) (.cons (.var 2) (.cons (.var 3) (.cons (.var 4) .nil))))))) 0) 3
      (.ite (.bin .eq (.var 12) (.n 0))
       (.ret (.cons (.var 13) .nil))
       (.ret (.cons (.n 0) .nil)))))))))))))))
theorem e10 : (fnVT Try.prog (sgOf sg10) (ltOf lt10) S10 Try.f10 c10).slim (S10.ps.map fun p => p.2.length).sum [] = vt10 := by kernel_rfl

/-! ### 3 -/
def S3 : Sig := ⟨[(true, [.str, .bool, (.sl 48 [.str, .str, (.int .i64), (.int .i64), (.int .i64), (.sl 74 [.str, (.int .i64)])]), (.sl 56 [(.int .i64), (.int .i64), (.int .i64), (.int .i64), .str, (.int .i64), (.int .i64)]), (.sl 50 [.str, (.int .i64)])])], [(false, [.bool])], [], none⟩
noncomputable def c3 : Code := Try.f3.body.getD .skip
theorem b3 : Try.f3.body = some c3 := body_some (by kernel_rfl)
theorem n3 : (Try.f3.name == "runtime.NumGoroutine") = false := by kernel_rfl
def sg3 : List (FuncId × Sig) := [(7, S7), (8, S8), (9, S9), (10, S10)]
def lt3 : List (Nat × LoopSig) := []
theorem k3 : (Code.loops c3).length = 0 := by kernel_rfl
def vt3 : VT :=
  (.need (.t true) (.pre 7 (.cons (.var 0) (.cons (.var 1) (.cons (.var 2) (.cons (.var 3) (.cons (.var 4) .nil))))))
  (.lt (.app 7 (.cons (.var 0) (.cons (.var 1) (.cons (.var 2) (.cons (.var 3) (.cons (.var 4) .nil))))) 0) 1
  (.need (.un .not (.var 5)) (.pre 8 .nil)
  (.lt (.app 8 .nil 0) 1
  (.lt (.app 7 (.cons (.var 0) (.cons (.var 1) (.cons (.var 2) (.cons (.var 3) (.cons (.var 4) .nil))))) 0) 1
  (.need (.ite (.un .not (.ite (.un .not (.var 5)) (.var 6) (.t false))) (.var 5) (.t false)) (.pre 9 (.cons (.var 0) (.cons (.var 1) (.cons (.var 2) (.cons (.var 3) (.cons (.var 4) .nil))))))
  (.lt (.app 9 (.cons (.var 0) (.cons (.var 1) (.cons (.var 2) (.cons (.var 3) (.cons (.var 4) .nil))))) 0) 1
  (.need (.ite (.un .not (.ite (.un .not (.var 5)) (.var 6) (.t false))) (.var 5) (.t false)) (.pre 10 (.cons (.var 0) (.cons (.var 1) (.cons (.var 2) (.cons (.var 3) (.cons (.var 4) .nil))))))
  (.lt (.app 10 (.cons (.var 0) (.cons (.var 1) (.cons (.var 2) (.cons (.var 3) (.cons (.var 4) .nil))))) 0) 1
  (.need (.ite (.un .not (.ite (.un .not (.var 5)) (.var 6) (.t false))) (.ite (.var 5) (.bin .eq (.var 8) (.var 9)) (.t false)) (.t false)) (.pre 8 .nil)
  (.lt (.app 8 .nil 0) 1
  (.ret (.cons (.ite (.ite (.un .not (.var 5)) (.var 6) (.t false)) (.t true) (.ite (.ite (.var 5) (.bin .eq (.var 8) (.var 9)) (.t false)) (.var 6) (.t false))) .nil)))))))))))))
theorem e3 : (fnVT Try.prog (sgOf sg3) (ltOf lt3) S3 Try.f3 c3).slim (S3.ps.map fun p => p.2.length).sum [] = vt3 := by kernel_rfl

/-! ### 15 -/
def S15 : Sig := ⟨[(true, [.str, .bool, (.sl 48 [.str, .str, (.int .i64), (.int .i64), (.int .i64), (.sl 74 [.str, (.int .i64)])]), (.sl 56 [(.int .i64), (.int .i64), (.int .i64), (.int .i64), .str, (.int .i64), (.int .i64)]), (.sl 50 [.str, (.int .i64)])])], [(true, [(.int .i64), (.sl 61 [(.int .i64), (.int .i64)])])], [], none⟩
noncomputable def c15 : Code := Try.f15.body.getD .skip
theorem b15 : Try.f15.body = some c15 := body_some (by kernel_rfl)
theorem n15 : (Try.f15.name == "runtime.NumGoroutine") = false := by kernel_rfl
def sg15 : List (FuncId × Sig) := []
def L15_0 : LoopSig := ⟨11500, [(1, some 1, 61), (2, some 1, 61)],
   ⟨[.any, (.c (.ptr 0 0)), .any, (.c (.ptr 2 0)), (.c (.x (.int .i64) (.var 0))), .any, .any, .any, .any, .any, .any, .any, .any, .any, .any, .any, .any, .any, .any, .any, .any, .any, .any, .any, .any, .any, .any, .any, .any, .any, .any, .any, .any, .any, .any],
    [some ⟨(.t true), (.box 26 [(.x .str (.var 1)), (.x .bool (.var 2)), (.x (.sl 48 [.str, .str, (.int .i64), (.int .i64), (.int .i64), (.sl 74 [.str, (.int .i64)])]) (.var 3)), (.x (.sl 56 [(.int .i64), (.int .i64), (.int .i64), (.int .i64), .str, (.int .i64), (.int .i64)]) (.var 4)), (.x (.sl 50 [.str, (.int .i64)]) (.var 5))] false)⟩, none, some ⟨(.t true), (.box 35 [(.x (.int .i64) (.var 6)), (.row 4 1)] false)⟩, none, some ⟨(.t true), (.row 61 [(.int .i64), (.int .i64)] (.var 7) 1 false)⟩]⟩,
   8, [0, 7], [9, 10, 11, 12, 13, 16, 17, 18, 19, 20, 21, 22, 23, 24, 25, 26, 27, 28, 29, 30, 31, 32, 33, 14, 15, 4], [(.exit 0)], [7]⟩
def lt15 : List (Nat × LoopSig) := [(3, L15_0)]
theorem k15 : (Code.loops c15).length = 1 := by kernel_rfl
noncomputable def lb15_0 : Code := (Code.loops c15).getD 0 .skip
def rt15_0 : VT :=
  (.ite (.bin .lt (.var 0) (.un .len (.var 4)))
   (.need (.t true) (.c (.bin .le (.n 0) (.var 0)))
   (.need (.t true) (.c (.bin .le (.un .len (.bin .cat (.var 7) (.lcons (.cons (.sel 0 (.var 4) (.var 0)) (.cons (.sel 1 (.var 4) (.var 0)) .nil)) .lnil))) (.n 8796093022208)))
   (.ret (.cons (.n (-1)) (.cons (.bin (.add .i64) (.var 0) (.n 1)) (.cons (.bin .cat (.var 7) (.lcons (.cons (.sel 0 (.var 4) (.var 0)) (.cons (.sel 1 (.var 4) (.var 0)) .nil)) .lnil)) .nil))))))
   (.ret (.cons (.n 0) (.cons (.var 0) (.cons (.var 7) .nil)))))
theorem le15_0 : (loopVT Try.prog (sgOf sg15) (ltOf lt15) L15_0 lb15_0).slim L15_0.nv [] = rt15_0 := by kernel_rfl
theorem lf15_0 : (firstRegion lb15_0).bind (ltOf lt15) = some L15_0 := by kernel_rfl
theorem lk15_0 : (Code.loops lb15_0).length = 0 := by kernel_rfl
def vt15 : VT :=
  (.need (.t true) (.pre 11500 (.cons (.n 0) (.cons (.var 0) (.cons (.var 1) (.cons (.var 2) (.cons (.var 3) (.cons (.var 4) (.cons (.un .len (.var 2)) (.cons .lnil .nil)))))))))
  (.lt (.app 11500 (.cons (.n 0) (.cons (.var 0) (.cons (.var 1) (.cons (.var 2) (.cons (.var 3) (.cons (.var 4) (.cons (.un .len (.var 2)) (.cons .lnil .nil)))))))) 0) 3
  (.ret (.cons (.un .len (.var 2)) (.cons (.var 7) .nil)))))
theorem e15 : (fnVT Try.prog (sgOf sg15) (ltOf lt15) S15 Try.f15 c15).slim (S15.ps.map fun p => p.2.length).sum [] = vt15 := by kernel_rfl

/-! ### 13 -/
def S13 : Sig := ⟨[(true, [(.int .i64), (.sl 61 [(.int .i64), (.int .i64)])]), (true, [(.int .i64), (.sl 61 [(.int .i64), (.int .i64)])])], [(false, [.bool])], [], none⟩
noncomputable def c13 : Code := Try.f13.body.getD .skip
theorem b13 : Try.f13.body = some c13 := body_some (by kernel_rfl)
theorem n13 : (Try.f13.name == "runtime.NumGoroutine") = false := by kernel_rfl
def sg13 : List (FuncId × Sig) := []
def L13_0 : LoopSig := ⟨11300, [],
   ⟨[.any, .any, (.c (.ptr 0 0)), (.c (.ptr 1 0)), (.c (.x .bool (.var 0))), (.c (.x (.int .i64) (.var 1))), .any, .any, .any, .any, .any, .any, .any, .any, .any, .any, .any, .any, .any, .any, .any, .any, .any, .any, .any, .any, .any, .any, .any, .any, .any, .any, .any, .any, .any, .any, .any, .any],
    [some ⟨(.t true), (.box 35 [(.x (.int .i64) (.var 2)), (.x (.sl 61 [(.int .i64), (.int .i64)]) (.var 3))] false)⟩, some ⟨(.t true), (.box 35 [(.x (.int .i64) (.var 4)), (.x (.sl 61 [(.int .i64), (.int .i64)]) (.var 5))] false)⟩]⟩,
   6, [0, 1], [20, 21, 22, 23, 24, 27, 28, 29, 30, 31, 32, 33, 34, 35, 36, 37, 4, 25, 26, 5], [.ret, (.exit 0)], []⟩
def lt13 : List (Nat × LoopSig) := [(4, L13_0)]
theorem k13 : (Code.loops c13).length = 1 := by kernel_rfl
noncomputable def lb13_0 : Code := (Code.loops c13).getD 0 .skip
def rt13_0 : VT :=
  (.ite (.bin .lt (.var 1) (.un .len (.var 3)))
   (.need (.t true) (.c (.bin .le (.n 0) (.var 1)))
   (.need (.t true) (.c (.bin .lt (.var 1) (.un .len (.var 5))))
   (.ite (.un .not (.ite (.bin .eq (.sel 0 (.var 3) (.var 1)) (.sel 0 (.var 5) (.var 1))) (.bin .eq (.sel 1 (.var 3) (.var 1)) (.sel 1 (.var 5) (.var 1))) (.t false)))
    (.ret (.cons (.n 0) (.cons (.t false) (.cons (.var 1) .nil))))
    (.ret (.cons (.n (-1)) (.cons (.var 0) (.cons (.bin (.add .i64) (.var 1) (.n 1)) .nil)))))))
   (.ret (.cons (.n 1) (.cons (.var 0) (.cons (.var 1) .nil)))))
theorem le13_0 : (loopVT Try.prog (sgOf sg13) (ltOf lt13) L13_0 lb13_0).slim L13_0.nv [] = rt13_0 := by kernel_rfl
theorem lf13_0 : (firstRegion lb13_0).bind (ltOf lt13) = some L13_0 := by kernel_rfl
theorem lk13_0 : (Code.loops lb13_0).length = 0 := by kernel_rfl
def vt13 : VT :=
  (.ite (.ite (.un .not (.bin .eq (.var 0) (.var 2))) (.t true) (.un .not (.bin .eq (.un .len (.var 1)) (.un .len (.var 3)))))
   (.ret (.cons (.t false) .nil))
   (.need (.t true) (.pre 11300 (.cons (.t false) (.cons (.n 0) (.cons (.var 0) (.cons (.var 1) (.cons (.var 2) (.cons (.var 3) .nil)))))))
   (.lt (.app 11300 (.cons (.t false) (.cons (.n 0) (.cons (.var 0) (.cons (.var 1) (.cons (.var 2) (.cons (.var 3) .nil)))))) 0) 3
   (.ite (.bin .eq (.var 4) (.n 0))
    (.ret (.cons (.var 5) .nil))
    (.ret (.cons (.t true) .nil))))))
theorem e13 : (fnVT Try.prog (sgOf sg13) (ltOf lt13) S13 Try.f13 c13).slim (S13.ps.map fun p => p.2.length).sum [] = vt13 := by kernel_rfl

/-! ### 41 -/
def S41 : Sig := ⟨[(true, [.str, .str, (.int .i64), (.int .i64), (.int .i64), (.sl 74 [.str, (.int .i64)])]), (true, [.str, .str, (.int .i64), (.int .i64), (.int .i64), (.sl 74 [.str, (.int .i64)])])], [(false, [.bool])], [], none⟩
noncomputable def c41 : Code := Try.f41.body.getD .skip
theorem b41 : Try.f41.body = some c41 := body_some (by kernel_rfl)
theorem n41 : (Try.f41.name == "runtime.NumGoroutine") = false := by kernel_rfl
def sg41 : List (FuncId × Sig) := []
def L41_0 : LoopSig := ⟨14100, [],
   ⟨[.any, .any, (.c (.ptr 0 0)), (.c (.ptr 1 0)), (.c (.x .bool (.var 0))), (.c (.x (.int .i64) (.var 1))), .any, .any, .any, .any, .any, .any, .any, .any, .any, .any, .any, .any, .any, .any, .any, .any, .any, .any, .any, .any, .any, .any, .any, .any, .any, .any, .any, .any, .any, .any, .any, .any, .any, .any, .any, .any, .any, .any, .any, .any, .any, .any, .any, .any, .any, .any, .any, .any, .any, .any, .any, .any, .any, .any, .any, .any, .any, .any, .any, .any],
    [some ⟨(.t true), (.box 48 [(.x .str (.var 2)), (.x .str (.var 3)), (.x (.int .i64) (.var 4)), (.x (.int .i64) (.var 5)), (.x (.int .i64) (.var 6)), (.x (.sl 74 [.str, (.int .i64)]) (.var 7))] false)⟩, some ⟨(.t true), (.box 48 [(.x .str (.var 8)), (.x .str (.var 9)), (.x (.int .i64) (.var 10)), (.x (.int .i64) (.var 11)), (.x (.int .i64) (.var 12)), (.x (.sl 74 [.str, (.int .i64)]) (.var 13))] false)⟩]⟩,
   14, [0, 1], [48, 49, 50, 51, 52, 55, 56, 57, 58, 59, 60, 61, 62, 63, 64, 65, 4, 53, 54, 5], [.ret, (.exit 0)], []⟩
def lt41 : List (Nat × LoopSig) := [(4, L41_0)]
theorem k41 : (Code.loops c41).length = 1 := by kernel_rfl
noncomputable def lb41_0 : Code := (Code.loops c41).getD 0 .skip
def rt41_0 : VT :=
  (.ite (.bin .lt (.var 1) (.un .len (.var 7)))
   (.need (.t true) (.c (.bin .le (.n 0) (.var 1)))
   (.need (.t true) (.c (.bin .lt (.var 1) (.un .len (.var 13))))
   (.ite (.un .not (.ite (.bin .seq (.sel 0 (.var 7) (.var 1)) (.sel 0 (.var 13) (.var 1))) (.bin .eq (.sel 1 (.var 7) (.var 1)) (.sel 1 (.var 13) (.var 1))) (.t false)))
    (.ret (.cons (.n 0) (.cons (.t false) (.cons (.var 1) .nil))))
    (.ret (.cons (.n (-1)) (.cons (.var 0) (.cons (.bin (.add .i64) (.var 1) (.n 1)) .nil)))))))
   (.ret (.cons (.n 1) (.cons (.var 0) (.cons (.var 1) .nil)))))
theorem le41_0 : (loopVT Try.prog (sgOf sg41) (ltOf lt41) L41_0 lb41_0).slim L41_0.nv [] = rt41_0 := by kernel_rfl
theorem lf41_0 : (firstRegion lb41_0).bind (ltOf lt41) = some L41_0 := by kernel_rfl
theorem lk41_0 : (Code.loops lb41_0).length = 0 := by kernel_rfl
def vt41 : VT :=
  (.ite (.ite (.ite (.ite (.ite (.ite (.un .not (.bin .seq (.var 0) (.var 6))) (.t true) (.un .not (.bin .seq (.var 1) (.var 7)))) (.t true) (.un .not (.bin .eq (.var 2) (.var 8)))) (.t true) (.un .not (.bin .eq (.var 3) (.var 9)))) (.t true) (.un .not (.bin .eq (.var 4) (.var 10)))) (.t true) (.un .not (.bin .eq (.un .len (.var 5)) (.un .len (.var 11)))))
   (.ret (.cons (.t false) .nil))
   (.need (.t true) (.pre 14100 (.cons (.t false) (.cons (.n 0) (.cons (.var 0) (.cons (.var 1) (.cons (.var 2) (.cons (.var 3) (.cons (.var 4) (.cons (.var 5) (.cons (.var 6) (.cons (.var 7) (.cons (.var 8) (.cons (.var 9) (.cons (.var 10) (.cons (.var 11) .nil)))))))))))))))
   (.lt (.app 14100 (.cons (.t false) (.cons (.n 0) (.cons (.var 0) (.cons (.var 1) (.cons (.var 2) (.cons (.var 3) (.cons (.var 4) (.cons (.var 5) (.cons (.var 6) (.cons (.var 7) (.cons (.var 8) (.cons (.var 9) (.cons (.var 10) (.cons (.var 11) .nil)))))))))))))) 0) 3
   (.ite (.bin .eq (.var 12) (.n 0))
    (.ret (.cons (.var 13) .nil))
    (.ret (.cons (.t true) .nil))))))
theorem e41 : (fnVT Try.prog (sgOf sg41) (ltOf lt41) S41 Try.f41 c41).slim (S41.ps.map fun p => p.2.length).sum [] = vt41 := by kernel_rfl

/-! ### 17 -/
def S17 : Sig := ⟨[(true, [.str, .bool, (.sl 48 [.str, .str, (.int .i64), (.int .i64), (.int .i64), (.sl 74 [.str, (.int .i64)])]), (.sl 56 [(.int .i64), (.int .i64), (.int .i64), (.int .i64), .str, (.int .i64), (.int .i64)]), (.sl 50 [.str, (.int .i64)])]), (true, [.str, .bool, (.sl 48 [.str, .str, (.int .i64), (.int .i64), (.int .i64), (.sl 74 [.str, (.int .i64)])]), (.sl 56 [(.int .i64), (.int .i64), (.int .i64), (.int .i64), .str, (.int .i64), (.int .i64)]), (.sl 50 [.str, (.int .i64)])])], [(false, [.bool])], [], none⟩
noncomputable def c17 : Code := Try.f17.body.getD .skip
theorem b17 : Try.f17.body = some c17 := body_some (by kernel_rfl)
theorem n17 : (Try.f17.name == "runtime.NumGoroutine") = false := by kernel_rfl
def sg17 : List (FuncId × Sig) := [(41, S41)]
def L17_0 : LoopSig := ⟨11700, [],
   ⟨[.any, .any, (.c (.ptr 0 0)), (.c (.ptr 1 0)), (.c (.x .bool (.var 0))), (.c (.x (.int .i64) (.var 1))), .any, .any, .any, .any, .any, .any, .any, .any, .any, .any, .any, .any, .any, .any, .any, .any, .any, .any, .any, .any, .any, .any, .any, .any, .any, .any, .any, .any, .any, .any, .any, .any, .any, .any, .any, .any, .any, .any, .any, .any, .any, .any, .any, .any, .any, .any, .any, .any, .any, .any, .any, .any, .any, .any, .any, .any, .any, .any, .any, .any, .any, .any, .any, .any, .any, .any, .any, .any, .any, .any, .any, .any, .any, .any, .any, .any, .any, .any, .any, .any, .any, .any, .any, .any, .any, .any, .any, .any, .any, .any, .any, .any, .any, .any, .any, .any],
    [some ⟨(.t true), (.box 26 [(.x .str (.var 2)), (.x .bool (.var 3)), (.x (.sl 48 [.str, .str, (.int .i64), (.int .i64), (.int .i64), (.sl 74 [.str, (.int .i64)])]) (.var 4)), (.x (.sl 56 [(.int .i64), (.int .i64), (.int .i64), (.int .i64), .str, (.int .i64), (.int .i64)]) (.var 5)), (.x (.sl 50 [.str, (.int .i64)]) (.var 6))] false)⟩, some ⟨(.t true), (.box 26 [(.x .str (.var 7)), (.x .bool (.var 8)), (.x (.sl 48 [.str, .str, (.int .i64), (.int .i64), (.int .i64), (.sl 74 [.str, (.int .i64)])]) (.var 9)), (.x (.sl 56 [(.int .i64), (.int .i64), (.int .i64), (.int .i64), .str, (.int .i64), (.int .i64)]) (.var 10)), (.x (.sl 50 [.str, (.int .i64)]) (.var 11))] false)⟩]⟩,
   12, [0, 1], [47, 48, 49, 50, 51, 54, 55, 56, 57, 58, 59, 60, 61, 62, 63, 64, 65, 4, 52, 53, 5], [.ret, (.exit 0)], []⟩
def L17_1 : LoopSig := ⟨11701, [],
   ⟨[.any, .any, (.c (.ptr 0 0)), (.c (.ptr 1 0)), (.c (.x .bool (.var 0))), .any, (.c (.x (.int .i64) (.var 1))), .any, .any, .any, .any, .any, .any, .any, .any, .any, .any, .any, .any, .any, .any, .any, .any, .any, .any, .any, .any, .any, .any, .any, .any, .any, .any, .any, .any, .any, .any, .any, .any, .any, .any, .any, .any, .any, .any, .any, .any, .any, .any, .any, .any, .any, .any, .any, .any, .any, .any, .any, .any, .any, .any, .any, .any, .any, .any, .any, .any, .any, .any, .any, .any, .any, .any, .any, .any, .any, .any, .any, .any, .any, .any, .any, .any, .any, .any, .any, .any, .any, .any, .any, .any, .any, .any, .any, .any, .any, .any, .any, .any, .any, .any, .any],
    [some ⟨(.t true), (.box 26 [(.x .str (.var 2)), (.x .bool (.var 3)), (.x (.sl 48 [.str, .str, (.int .i64), (.int .i64), (.int .i64), (.sl 74 [.str, (.int .i64)])]) (.var 4)), (.x (.sl 56 [(.int .i64), (.int .i64), (.int .i64), (.int .i64), .str, (.int .i64), (.int .i64)]) (.var 5)), (.x (.sl 50 [.str, (.int .i64)]) (.var 6))] false)⟩, some ⟨(.t true), (.box 26 [(.x .str (.var 7)), (.x .bool (.var 8)), (.x (.sl 48 [.str, .str, (.int .i64), (.int .i64), (.int .i64), (.sl 74 [.str, (.int .i64)])]) (.var 9)), (.x (.sl 56 [(.int .i64), (.int .i64), (.int .i64), (.int .i64), .str, (.int .i64), (.int .i64)]) (.var 10)), (.x (.sl 50 [.str, (.int .i64)]) (.var 11))] false)⟩]⟩,
   12, [0, 1], [66, 67, 68, 69, 70, 73, 74, 75, 76, 77, 78, 79, 80, 81, 82, 83, 4, 71, 72, 6], [.ret, (.exit 2)], []⟩
def L17_2 : LoopSig := ⟨11702, [],
   ⟨[.any, .any, (.c (.ptr 0 0)), (.c (.ptr 1 0)), (.c (.x .bool (.var 0))), .any, .any, (.c (.x (.int .i64) (.var 1))), .any, .any, .any, .any, .any, .any, .any, .any, .any, .any, .any, .any, .any, .any, .any, .any, .any, .any, .any, .any, .any, .any, .any, .any, .any, .any, .any, .any, .any, .any, .any, .any, .any, .any, .any, .any, .any, .any, .any, .any, .any, .any, .any, .any, .any, .any, .any, .any, .any, .any, .any, .any, .any, .any, .any, .any, .any, .any, .any, .any, .any, .any, .any, .any, .any, .any, .any, .any, .any, .any, .any, .any, .any, .any, .any, .any, .any, .any, .any, .any, .any, .any, .any, .any, .any, .any, .any, .any, .any, .any, .any, .any, .any, .any],
    [some ⟨(.t true), (.box 26 [(.x .str (.var 2)), (.x .bool (.var 3)), (.x (.sl 48 [.str, .str, (.int .i64), (.int .i64), (.int .i64), (.sl 74 [.str, (.int .i64)])]) (.var 4)), (.x (.sl 56 [(.int .i64), (.int .i64), (.int .i64), (.int .i64), .str, (.int .i64), (.int .i64)]) (.var 5)), (.x (.sl 50 [.str, (.int .i64)]) (.var 6))] false)⟩, some ⟨(.t true), (.box 26 [(.x .str (.var 7)), (.x .bool (.var 8)), (.x (.sl 48 [.str, .str, (.int .i64), (.int .i64), (.int .i64), (.sl 74 [.str, (.int .i64)])]) (.var 9)), (.x (.sl 56 [(.int .i64), (.int .i64), (.int .i64), (.int .i64), .str, (.int .i64), (.int .i64)]) (.var 10)), (.x (.sl 50 [.str, (.int .i64)]) (.var 11))] false)⟩]⟩,
   12, [0, 1], [84, 85, 86, 87, 88, 91, 92, 93, 94, 95, 96, 97, 98, 99, 100, 101, 4, 89, 90, 7], [.ret, (.exit 4)], []⟩
def lt17 : List (Nat × LoopSig) := [(4, L17_0), (9, L17_1), (14, L17_2)]
theorem k17 : (Code.loops c17).length = 3 := by kernel_rfl
noncomputable def lb17_0 : Code := (Code.loops c17).getD 0 .skip
noncomputable def lb17_1 : Code := (Code.loops c17).getD 1 .skip
noncomputable def lb17_2 : Code := (Code.loops c17).getD 2 .skip
def rt17_0 : VT :=
  (.ite (.bin .lt (.var 1) (.un .len (.var 4)))
   (.need (.t true) (.c (.bin .le (.n 0) (.var 1)))
   (.need (.t true) (.c (.bin .lt (.var 1) (.un .len (.var 9))))
   (.need (.t true) (.pre 41 (.cons (.sel 0 (.var 4) (.var 1)) (.cons (.sel 1 (.var 4) (.var 1)) (.cons (.sel 2 (.var 4) (.var 1)) (.cons (.sel 3 (.var 4) (.var 1)) (.cons (.sel 4 (.var 4) (.var 1)) (.cons (.sel 5 (.var 4) (.var 1)) (.cons (.sel 0 (.var 9) (.var 1)) (.cons (.sel 1 (.var 9) (.var 1)) (.cons (.sel 2 (.var 9) (.var 1)) (.cons (.sel 3 (.var 9) (.var 1)) (.cons (.sel 4 (.var 9) (.var 1)) (.cons (.sel 5 (.var 9) (.var 1)) .nil)))))))))))))
   (.lt (.app 41 (.cons (.sel 0 (.var 4) (.var 1)) (.cons (.sel 1 (.var 4) (.var 1)) (.cons (.sel 2 (.var 4) (.var 1)) (.cons (.sel 3 (.var 4) (.var 1)) (.cons (.sel 4 (.var 4) (.var 1)) (.cons (.sel 5 (.var 4) (.var 1)) (.cons (.sel 0 (.var 9) (.var 1)) (.cons (.sel 1 (.var 9) (.var 1)) (.cons (.sel 2 (.var 9) (.var 1)) (.cons (.sel 3 (.var 9) (.var 1)) (.cons (.sel 4 (.var 9) (.var 1)) (.cons (.sel 5 (.var 9) (.var 1)) .nil)))))))))))) 0) 1
   (.ite (.un .not (.var 12))
    (.ret (.cons (.n 0) (.cons (.t false) (.cons (.var 1) .nil))))
    (.ret (.cons (.n (-1)) (.cons (.var 0) (.cons (.bin (.add .i64) (.var 1) (.n 1)) .nil)))))))))
   (.ret (.cons (.n 1) (.cons (.var 0) (.cons (.var 1) .nil)))))
theorem le17_0 : (loopVT Try.prog (sgOf sg17) (ltOf lt17) L17_0 lb17_0).slim L17_0.nv [] = rt17_0 := by kernel_rfl
theorem lf17_0 : (firstRegion lb17_0).bind (ltOf lt17) = some L17_0 := by kernel_rfl
theorem lk17_0 : (Code.loops lb17_0).length = 0 := by kernel_rfl
def rt17_1 : VT :=
  (.ite (.bin .lt (.var 1) (.un .len (.var 5)))
   (.need (.t true) (.c (.bin .le (.n 0) (.var 1)))
   (.need (.t true) (.c (.bin .lt (.var 1) (.un .len (.var 10))))
   (.ite (.un .not (.ite (.bin .eq (.sel 0 (.var 5) (.var 1)) (.sel 0 (.var 10) (.var 1))) (.ite (.bin .eq (.sel 1 (.var 5) (.var 1)) (.sel 1 (.var 10) (.var 1))) (.ite (.bin .eq (.sel 2 (.var 5) (.var 1)) (.sel 2 (.var 10) (.var 1))) (.ite (.bin .eq (.sel 3 (.var 5) (.var 1)) (.sel 3 (.var 10) (.var 1))) (.ite (.bin .seq (.sel 4 (.var 5) (.var 1)) (.sel 4 (.var 10) (.var 1))) (.ite (.bin .eq (.sel 5 (.var 5) (.var 1)) (.sel 5 (.var 10) (.var 1))) (.bin .eq (.sel 6 (.var 5) (.var 1)) (.sel 6 (.var 10) (.var 1))) (.t false)) (.t false)) (.t false)) (.t false)) (.t false)) (.t false)))
    (.ret (.cons (.n 0) (.cons (.t false) (.cons (.var 1) .nil))))
    (.ret (.cons (.n (-1)) (.cons (.var 0) (.cons (.bin (.add .i64) (.var 1) (.n 1)) .nil)))))))
   (.ret (.cons (.n 1) (.cons (.var 0) (.cons (.var 1) .nil)))))
theorem le17_1 : (loopVT Try.prog (sgOf sg17) (ltOf lt17) L17_1 lb17_1).slim L17_1.nv [] = rt17_1 := by kernel_rfl
theorem lf17_1 : (firstRegion lb17_1).bind (ltOf lt17) = some L17_1 := by kernel_rfl
theorem lk17_1 : (Code.loops lb17_1).length = 0 := by kernel_rfl
def rt17_2 : VT :=
  (.ite (.bin .lt (.var 1) (.un .len (.var 6)))
   (.need (.t true) (.c (.bin .le (.n 0) (.var 1)))
   (.need (.t true) (.c (.bin .lt (.var 1) (.un .len (.var 11))))
   (.ite (.un .not (.ite (.bin .seq (.sel 0 (.var 6) (.var 1)) (.sel 0 (.var 11) (.var 1))) (.bin .eq (.sel 1 (.var 6) (.var 1)) (.sel 1 (.var 11) (.var 1))) (.t false)))
    (.ret (.cons (.n 0) (.cons (.t false) (.cons (.var 1) .nil))))
    (.ret (.cons (.n (-1)) (.cons (.var 0) (.cons (.bin (.add .i64) (.var 1) (.n 1)) .nil)))))))
   (.ret (.cons (.n 1) (.cons (.var 0) (.cons (.var 1) .nil)))))
theorem le17_2 : (loopVT Try.prog (sgOf sg17) (ltOf lt17) L17_2 lb17_2).slim L17_2.nv [] = rt17_2 := by kernel_rfl
theorem lf17_2 : (firstRegion lb17_2).bind (ltOf lt17) = some L17_2 := by kernel_rfl
theorem lk17_2 : (Code.loops lb17_2).length = 0 := by kernel_rfl
def vt17 : VT :=
  (.ite (.ite (.ite (.ite (.ite (.un .not (.bin .seq (.var 0) (.var 5))) (.t true) (.un .not (.bin .beq (.var 1) (.var 6)))) (.t true) (.un .not (.bin .eq (.un .len (.var 2)) (.un .len (.var 7))))) (.t true) (.un .not (.bin .eq (.un .len (.var 3)) (.un .len (.var 8))))) (.t true) (.un .not (.bin .eq (.un .len (.var 4)) (.un .len (.var 9)))))
   (.ret (.cons (.t false) .nil))
   (.need (.t true) (.pre 11700 (.cons (.t false) (.cons (.n 0) (.cons (.var 0) (.cons (.var 1) (.cons (.var 2) (.cons (.var 3) (.cons (.var 4) (.cons (.var 5) (.cons (.var 6) (.cons (.var 7) (.cons (.var 8) (.cons (.var 9) .nil)))))))))))))
   (.lt (.app 11700 (.cons (.t false) (.cons (.n 0) (.cons (.var 0) (.cons (.var 1) (.cons (.var 2) (.cons (.var 3) (.cons (.var 4) (.cons (.var 5) (.cons (.var 6) (.cons (.var 7) (.cons (.var 8) (.cons (.var 9) .nil)))))))))))) 0) 3
   (.ite (.bin .eq (.var 10) (.n 0))
    (.ret (.cons (.var 11) .nil))
    (.need (.t true) (.pre 11701 (.cons (.var 11) (.cons (.n 0) (.cons (.var 0) (.cons (.var 1) (.cons (.var 2) (.cons (.var 3) (.cons (.var 4) (.cons (.var 5) (.cons (.var 6) (.cons (.var 7) (.cons (.var 8) (.cons (.var 9) .nil)))))))))))))
    (.lt (.app 11701 (.cons (.var 11) (.cons (.n 0) (.cons (.var 0) (.cons (.var 1) (.cons (.var 2) (.cons (.var 3) (.cons (.var 4) (.cons (.var 5) (.cons (.var 6) (.cons (.var 7) (.cons (.var 8) (.cons (.var 9) .nil)))))))))))) 0) 3
    (.ite (.bin .eq (.var 13) (.n 0))
     (.ret (.cons (.var 14) .nil))
     (.need (.t true) (.pre 11702 (.cons (.var 14) (.cons (.n 0) (.cons (.var 0) (.cons (.var 1) (.cons (.var 2) (.cons (.var 3) (.cons (.var 4) (.cons (.var 5) (.cons (.var 6) (.cons (.var 7) (.cons (.var 8) (.cons (.var 9) .nil)))))))))))))
     (.lt (.app 11702 (.cons (.var 14) (.cons (.n 0) (.cons (.var 0) (.cons (.var 1) (.cons (.var 2) (.cons (.var 3) (.cons (.var 4) (.cons (.var 5) (.cons (.var 6) (.cons (.var 7) (.cons (.var 8) (.cons (.var 9) .nil)))))))))))) 0) 3
     (.ite (.bin .eq (.var 16) (.n 0))
      (.ret (.cons (.var 17) .nil))
      (.ret (.cons (.t true) .nil))))))))))))
theorem e17 : (fnVT Try.prog (sgOf sg17) (ltOf lt17) S17 Try.f17 c17).slim (S17.ps.map fun p => p.2.length).sum [] = vt17 := by kernel_rfl

/-! ### 4 -/
def S4 : Sig := ⟨[(true, [.str, .bool, (.sl 48 [.str, .str, (.int .i64), (.int .i64), (.int .i64), (.sl 74 [.str, (.int .i64)])]), (.sl 56 [(.int .i64), (.int .i64), (.int .i64), (.int .i64), .str, (.int .i64), (.int .i64)]), (.sl 50 [.str, (.int .i64)])]), (true, [.str, .bool, (.sl 48 [.str, .str, (.int .i64), (.int .i64), (.int .i64), (.sl 74 [.str, (.int .i64)])]), (.sl 56 [(.int .i64), (.int .i64), (.int .i64), (.int .i64), .str, (.int .i64), (.int .i64)]), (.sl 50 [.str, (.int .i64)])]), (false, [.str])], [(false, [.bool])], [], none⟩
noncomputable def c4 : Code := Try.f4.body.getD .skip
theorem b4 : Try.f4.body = some c4 := body_some (by kernel_rfl)
theorem n4 : (Try.f4.name == "runtime.NumGoroutine") = false := by kernel_rfl
def sg4 : List (FuncId × Sig) := [(7, S7), (8, S8), (11, S11), (12, S12), (14, S14), (15, S15), (13, S13), (16, S16), (17, S17)]
def lt4 : List (Nat × LoopSig) := []
theorem k4 : (Code.loops c4).length = 0 := by kernel_rfl
def vt4 : VT :=
  (.need (.t true) (.pre 7 (.cons (.var 0) (.cons (.var 1) (.cons (.var 2) (.cons (.var 3) (.cons (.var 4) .nil))))))
  (.lt (.app 7 (.cons (.var 0) (.cons (.var 1) (.cons (.var 2) (.cons (.var 3) (.cons (.var 4) .nil))))) 0) 1
  (.need (.var 11) (.pre 7 (.cons (.var 5) (.cons (.var 6) (.cons (.var 7) (.cons (.var 8) (.cons (.var 9) .nil))))))
  (.lt (.app 7 (.cons (.var 5) (.cons (.var 6) (.cons (.var 7) (.cons (.var 8) (.cons (.var 9) .nil))))) 0) 1
  (.ite (.ite (.un .not (.var 11)) (.t true) (.un .not (.var 12)))
   (.need (.t true) (.pre 8 .nil)
   (.lt (.app 8 .nil 0) 1
   (.ret (.cons (.var 13) .nil))))
   (.need (.t true) (.pre 11 (.cons (.var 0) (.cons (.var 1) (.cons (.var 2) (.cons (.var 3) (.cons (.var 4) (.cons (.var 10) .nil)))))))
   (.lt (.app 11 (.cons (.var 0) (.cons (.var 1) (.cons (.var 2) (.cons (.var 3) (.cons (.var 4) (.cons (.var 10) .nil)))))) 0) 1
   (.need (.t true) (.pre 12 (.cons (.var 0) (.cons (.var 1) (.cons (.var 2) (.cons (.var 3) (.cons (.var 4) (.cons (.var 10) .nil)))))))
   (.lt (.app 12 (.cons (.var 0) (.cons (.var 1) (.cons (.var 2) (.cons (.var 3) (.cons (.var 4) (.cons (.var 10) .nil)))))) 0) 1
   (.need (.bin .eq (.var 13) (.var 14)) (.pre 14 (.cons (.var 0) (.cons (.var 1) (.cons (.var 2) (.cons (.var 3) (.cons (.var 4) .nil))))))
   (.lt (.app 14 (.cons (.var 0) (.cons (.var 1) (.cons (.var 2) (.cons (.var 3) (.cons (.var 4) .nil))))) 0) 2
   (.need (.bin .eq (.var 13) (.var 14)) (.pre 15 (.cons (.var 0) (.cons (.var 1) (.cons (.var 2) (.cons (.var 3) (.cons (.var 4) .nil))))))
   (.lt (.app 15 (.cons (.var 0) (.cons (.var 1) (.cons (.var 2) (.cons (.var 3) (.cons (.var 4) .nil))))) 0) 2
   (.need (.bin .eq (.var 13) (.var 14)) (.pre 13 (.cons (.var 15) (.cons (.var 16) (.cons (.var 17) (.cons (.var 18) .nil)))))
   (.lt (.app 13 (.cons (.var 15) (.cons (.var 16) (.cons (.var 17) (.cons (.var 18) .nil)))) 0) 1
   (.need (.ite (.bin .eq (.var 13) (.var 14)) (.var 19) (.t false)) (.pre 16 (.cons (.var 0) (.cons (.var 1) (.cons (.var 2) (.cons (.var 3) (.cons (.var 4) (.cons (.var 5) (.cons (.var 6) (.cons (.var 7) (.cons (.var 8) (.cons (.var 9) .nil)))))))))))
   (.lt (.app 16 (.cons (.var 0) (.cons (.var 1) (.cons (.var 2) (.cons (.var 3) (.cons (.var 4) (.cons (.var 5) (.cons (.var 6) (.cons (.var 7) (.cons (.var 8) (.cons (.var 9) .nil)))))))))) 0) 1
   (.need (.ite (.bin .eq (.var 13) (.var 14)) (.var 19) (.t false)) (.pre 17 (.cons (.var 0) (.cons (.var 1) (.cons (.var 2) (.cons (.var 3) (.cons (.var 4) (.cons (.var 5) (.cons (.var 6) (.cons (.var 7) (.cons (.var 8) (.cons (.var 9) .nil)))))))))))
   (.lt (.app 17 (.cons (.var 0) (.cons (.var 1) (.cons (.var 2) (.cons (.var 3) (.cons (.var 4) (.cons (.var 5) (.cons (.var 6) (.cons (.var 7) (.cons (.var 8) (.cons (.var 9) .nil)))))))))) 0) 1
   (.need (.ite (.ite (.bin .eq (.var 13) (.var 14)) (.var 19) (.t false)) (.bin .beq (.var 20) (.var 21)) (.t false)) (.pre 16 (.cons (.var 0) (.cons (.var 1) (.cons (.var 2) (.cons (.var 3) (.cons (.var 4) (.cons (.var 0) (.cons (.var 1) (.cons (.var 2) (.cons (.var 3) (.cons (.var 4) .nil)))))))))))
   (.lt (.app 16 (.cons (.var 0) (.cons (.var 1) (.cons (.var 2) (.cons (.var 3) (.cons (.var 4) (.cons (.var 0) (.cons (.var 1) (.cons (.var 2) (.cons (.var 3) (.cons (.var 4) .nil)))))))))) 0) 1
   (.need (.ite (.ite (.ite (.bin .eq (.var 13) (.var 14)) (.var 19) (.t false)) (.bin .beq (.var 20) (.var 21)) (.t false)) (.var 22) (.t false)) (.pre 8 .nil)
   (.lt (.app 8 .nil 0) 1
   (.ret (.cons (.ite (.ite (.ite (.ite (.bin .eq (.var 13) (.var 14)) (.var 19) (.t false)) (.bin .beq (.var 20) (.var 21)) (.t false)) (.var 22) (.t false)) (.var 23) (.t false)) .nil)))))))))))))))))))))))))
theorem e4 : (fnVT Try.prog (sgOf sg4) (ltOf lt4) S4 Try.f4 c4).slim (S4.ps.map fun p => p.2.length).sum [] = vt4 := by kernel_rfl

/-! ### 44 -/
def S44 : Sig := ⟨[(true, [.str, .bool, (.sl 48 [.str, .str, (.int .i64), (.int .i64), (.int .i64), (.sl 74 [.str, (.int .i64)])]), (.sl 56 [(.int .i64), (.int .i64), (.int .i64), (.int .i64), .str, (.int .i64), (.int .i64)]), (.sl 50 [.str, (.int .i64)])]), (false, [(.int .i64)]), (false, [(.int .i64)])], [(false, [.bool])], [], none⟩
noncomputable def c44 : Code := Try.f44.body.getD .skip
theorem b44 : Try.f44.body = some c44 := body_some (by kernel_rfl)
theorem n44 : (Try.f44.name == "runtime.NumGoroutine") = false := by kernel_rfl
def sg44 : List (FuncId × Sig) := []
def L44_0 : LoopSig := ⟨14400, [],
   ⟨[.any, (.c (.x (.int .i64) (.var 0))), .any, (.c (.ptr 0 0)), .any, .any, (.c (.x .bool (.var 1))), (.c (.x (.int .i64) (.var 2))), .any, .any, .any, .any, .any, .any, .any, .any, .any, .any, .any, .any, .any, .any, .any, .any, .any, .any, .any],
    [some ⟨(.t true), (.box 26 [(.x .str (.var 3)), (.x .bool (.var 4)), (.x (.sl 48 [.str, .str, (.int .i64), (.int .i64), (.int .i64), (.sl 74 [.str, (.int .i64)])]) (.var 5)), (.x (.sl 56 [(.int .i64), (.int .i64), (.int .i64), (.int .i64), .str, (.int .i64), (.int .i64)]) (.var 6)), (.x (.sl 50 [.str, (.int .i64)]) (.var 7))] false)⟩]⟩,
   8, [1, 2], [16, 17, 24, 25, 26, 6, 18, 19, 20, 21, 22, 23, 7], [.ret, (.exit 0)], []⟩
def lt44 : List (Nat × LoopSig) := [(4, L44_0)]
theorem k44 : (Code.loops c44).length = 1 := by kernel_rfl
noncomputable def lb44_0 : Code := (Code.loops c44).getD 0 .skip
def rt44_0 : VT :=
  (.ite (.bin .le (.n 0) (.var 2))
   (.ite (.bin .eq (.var 2) (.var 0))
    (.ret (.cons (.n 0) (.cons (.t true) (.cons (.var 2) .nil))))
    (.need (.t true) (.c (.bin .lt (.var 2) (.un .len (.var 7))))
    (.ret (.cons (.n (-1)) (.cons (.var 1) (.cons (.sel 1 (.var 7) (.var 2)) .nil))))))
   (.ret (.cons (.n 1) (.cons (.var 1) (.cons (.var 2) .nil)))))
theorem le44_0 : (loopVT Try.prog (sgOf sg44) (ltOf lt44) L44_0 lb44_0).slim L44_0.nv [] = rt44_0 := by kernel_rfl
theorem lf44_0 : (firstRegion lb44_0).bind (ltOf lt44) = some L44_0 := by kernel_rfl
theorem lk44_0 : (Code.loops lb44_0).length = 0 := by kernel_rfl
def vt44 : VT :=
  (.ite (.bin .eq (.var 5) (.n (-1)))
   (.ret (.cons (.t true) .nil))
   (.need (.t true) (.c (.bin .le (.n 0) (.var 6)))
   (.need (.t true) (.c (.bin .lt (.var 6) (.un .len (.var 2))))
   (.need (.t true) (.pre 14400 (.cons (.var 5) (.cons (.t false) (.cons (.sel 4 (.var 2) (.var 6)) (.cons (.var 0) (.cons (.var 1) (.cons (.var 2) (.cons (.var 3) (.cons (.var 4) .nil)))))))))
   (.lt (.app 14400 (.cons (.var 5) (.cons (.t false) (.cons (.sel 4 (.var 2) (.var 6)) (.cons (.var 0) (.cons (.var 1) (.cons (.var 2) (.cons (.var 3) (.cons (.var 4) .nil)))))))) 0) 3
   (.ite (.bin .eq (.var 7) (.n 0))
    (.ret (.cons (.var 8) .nil))
    (.ret (.cons (.t false) .nil))))))))
theorem e44 : (fnVT Try.prog (sgOf sg44) (ltOf lt44) S44 Try.f44 c44).slim (S44.ps.map fun p => p.2.length).sum [] = vt44 := by kernel_rfl

/-! ### 20 -/
def S20 : Sig := ⟨[(true, [.str, .bool, (.sl 48 [.str, .str, (.int .i64), (.int .i64), (.int .i64), (.sl 74 [.str, (.int .i64)])]), (.sl 56 [(.int .i64), (.int .i64), (.int .i64), (.int .i64), .str, (.int .i64), (.int .i64)]), (.sl 50 [.str, (.int .i64)])]), (false, [(.int .i64)])], [(false, [(.sl 3 [(.int .i64)])])], [], none⟩
noncomputable def c20 : Code := Try.f20.body.getD .skip
theorem b20 : Try.f20.body = some c20 := body_some (by kernel_rfl)
theorem n20 : (Try.f20.name == "runtime.NumGoroutine") = false := by kernel_rfl
def sg20 : List (FuncId × Sig) := [(10, S10), (44, S44)]
def L20_0 : LoopSig := ⟨12000, [(5, none, 3)],
   ⟨[.any, (.c (.x (.int .i64) (.var 0))), (.c (.ptr 0 0)), .any, .any, (.c (.row 1 1)), (.c (.x (.int .i64) (.var 1))), .any, .any, .any, .any, .any, .any, .any, .any, .any, .any, .any, .any, .any, .any, .any, .any, .any, .any, .any, .any, .any, .any, .any, .any, .any, .any, .any, .any, .any, .any],
    [some ⟨(.t true), (.box 26 [(.x .str (.var 2)), (.x .bool (.var 3)), (.x (.sl 48 [.str, .str, (.int .i64), (.int .i64), (.int .i64), (.sl 74 [.str, (.int .i64)])]) (.var 4)), (.x (.sl 56 [(.int .i64), (.int .i64), (.int .i64), (.int .i64), .str, (.int .i64), (.int .i64)]) (.var 5)), (.x (.sl 50 [.str, (.int .i64)]) (.var 6))] false)⟩, some ⟨(.t true), (.row 3 [(.int .i64)] (.var 7) 1 false)⟩]⟩,
   8, [1, 7], [21, 22, 23, 24, 25, 28, 29, 30, 31, 32, 33, 34, 35, 5, 26, 27, 6], [(.exit 0)], [7]⟩
def lt20 : List (Nat × LoopSig) := [(5, L20_0)]
theorem k20 : (Code.loops c20).length = 1 := by kernel_rfl
noncomputable def lb20_0 : Code := (Code.loops c20).getD 0 .skip
def rt20_0 : VT :=
  (.ite (.bin .lt (.var 1) (.un .len (.var 4)))
   (.need (.t true) (.pre 44 (.cons (.var 2) (.cons (.var 3) (.cons (.var 4) (.cons (.var 5) (.cons (.var 6) (.cons (.var 0) (.cons (.var 1) .nil))))))))
   (.lt (.app 44 (.cons (.var 2) (.cons (.var 3) (.cons (.var 4) (.cons (.var 5) (.cons (.var 6) (.cons (.var 0) (.cons (.var 1) .nil))))))) 0) 1
   (.ite (.var 8)
    (.need (.t true) (.c (.bin .le (.un .len (.bin .cat (.var 7) (.lcons (.cons (.var 1) .nil) .lnil))) (.n 17592186044416)))
    (.ret (.cons (.n (-1)) (.cons (.bin (.add .i64) (.var 1) (.n 1)) (.cons (.bin .cat (.var 7) (.lcons (.cons (.var 1) .nil) .lnil)) .nil)))))
    (.ret (.cons (.n (-1)) (.cons (.bin (.add .i64) (.var 1) (.n 1)) (.cons (.var 7) .nil)))))))
   (.ret (.cons (.n 0) (.cons (.var 1) (.cons (.var 7) .nil)))))
theorem le20_0 : (loopVT Try.prog (sgOf sg20) (ltOf lt20) L20_0 lb20_0).slim L20_0.nv [] = rt20_0 := by kernel_rfl
theorem lf20_0 : (firstRegion lb20_0).bind (ltOf lt20) = some L20_0 := by kernel_rfl
theorem lk20_0 : (Code.loops lb20_0).length = 0 := by kernel_rfl
def vt20 : VT :=
  (.need (.t true) (.pre 10 (.cons (.var 0) (.cons (.var 1) (.cons (.var 2) (.cons (.var 3) (.cons (.var 4) .nil))))))
  (.lt (.app 10 (.cons (.var 0) (.cons (.var 1) (.cons (.var 2) (.cons (.var 3) (.cons (.var 4) .nil))))) 0) 1
  (.ite (.ite (.ite (.un .not (.bin .eq (.var 6) (.n 0))) (.t true) (.bin .lt (.var 5) (.n (-1)))) (.t true) (.bin .le (.un .len (.var 4)) (.var 5)))
   (.ret (.cons .lnil .nil))
   (.need (.t true) (.pre 12000 (.cons (.var 5) (.cons (.n 0) (.cons (.var 0) (.cons (.var 1) (.cons (.var 2) (.cons (.var 3) (.cons (.var 4) (.cons .lnil .nil)))))))))
   (.lt (.app 12000 (.cons (.var 5) (.cons (.n 0) (.cons (.var 0) (.cons (.var 1) (.cons (.var 2) (.cons (.var 3) (.cons (.var 4) (.cons .lnil .nil)))))))) 0) 3
   (.ret (.cons (.var 9) .nil)))))))
theorem e20 : (fnVT Try.prog (sgOf sg20) (ltOf lt20) S20 Try.f20 c20).slim (S20.ps.map fun p => p.2.length).sum [] = vt20 := by kernel_rfl

/-! ### 22 -/
def S22 : Sig := ⟨[(true, [.str, .bool, (.sl 48 [.str, .str, (.int .i64), (.int .i64), (.int .i64), (.sl 74 [.str, (.int .i64)])]), (.sl 56 [(.int .i64), (.int .i64), (.int .i64), (.int .i64), .str, (.int .i64), (.int .i64)]), (.sl 50 [.str, (.int .i64)])]), (false, [(.int .i64)])], [(false, [(.int .i64)])], [], none⟩
noncomputable def c22 : Code := Try.f22.body.getD .skip
theorem b22 : Try.f22.body = some c22 := body_some (by kernel_rfl)
theorem n22 : (Try.f22.name == "runtime.NumGoroutine") = false := by kernel_rfl
def sg22 : List (FuncId × Sig) := [(10, S10), (46, S46)]
def lt22 : List (Nat × LoopSig) := []
theorem k22 : (Code.loops c22).length = 0 := by kernel_rfl
def vt22 : VT :=
  (.need (.t true) (.pre 10 (.cons (.var 0) (.cons (.var 1) (.cons (.var 2) (.cons (.var 3) (.cons (.var 4) .nil))))))
  (.lt (.app 10 (.cons (.var 0) (.cons (.var 1) (.cons (.var 2) (.cons (.var 3) (.cons (.var 4) .nil))))) 0) 1
  (.ite (.ite (.ite (.un .not (.bin .eq (.var 6) (.n 0))) (.t true) (.bin .lt (.var 5) (.n (-1)))) (.t true) (.bin .le (.un .len (.var 4)) (.var 5)))
   (.ret (.cons (.n 0) .nil))
   (.need (.t true) (.pre 46 (.cons (.var 0) (.cons (.var 1) (.cons (.var 2) (.cons (.var 3) (.cons (.var 4) (.cons (.var 5) .nil)))))))
   (.lt (.app 46 (.cons (.var 0) (.cons (.var 1) (.cons (.var 2) (.cons (.var 3) (.cons (.var 4) (.cons (.var 5) .nil)))))) 0) 1
   (.ret (.cons (.var 7) .nil)))))))
theorem e22 : (fnVT Try.prog (sgOf sg22) (ltOf lt22) S22 Try.f22 c22).slim (S22.ps.map fun p => p.2.length).sum [] = vt22 := by kernel_rfl

/-! ### 24 -/
def S24 : Sig := ⟨[(true, [.str, .bool, (.sl 48 [.str, .str, (.int .i64), (.int .i64), (.int .i64), (.sl 74 [.str, (.int .i64)])]), (.sl 56 [(.int .i64), (.int .i64), (.int .i64), (.int .i64), .str, (.int .i64), (.int .i64)]), (.sl 50 [.str, (.int .i64)])]), (false, [(.int .i64)]), (false, [(.int .i64)])], [(false, [(.int .i64)])], [], none⟩
noncomputable def c24 : Code := Try.f24.body.getD .skip
theorem b24 : Try.f24.body = some c24 := body_some (by kernel_rfl)
theorem n24 : (Try.f24.name == "runtime.NumGoroutine") = false := by kernel_rfl
def sg24 : List (FuncId × Sig) := [(10, S10), (44, S44), (46, S46)]
def L24_0 : LoopSig := ⟨12400, [],
   ⟨[.any, (.c (.x (.int .i64) (.var 0))), (.c (.x (.int .i64) (.var 1))), (.c (.ptr 0 0)), .any, .any, .any, (.c (.x (.int .i64) (.var 2))), (.c (.x (.int .i64) (.var 3))), .any, .any, .any, .any, .any, .any, .any, .any, .any, .any, .any, .any, .any, .any, .any, .any, .any, .any, .any, .any, .any, .any, .any, .any, .any, .any, .any, .any, .any, .any, .any, .any, .any, .any, .any, .any, .any, .any, .any, .any, .any, .any, .any, .any, .any, .any, .any, .any, .any, .any, .any, .any, .any],
    [some ⟨(.t true), (.box 26 [(.x .str (.var 4)), (.x .bool (.var 5)), (.x (.sl 48 [.str, .str, (.int .i64), (.int .i64), (.int .i64), (.sl 74 [.str, (.int .i64)])]) (.var 6)), (.x (.sl 56 [(.int .i64), (.int .i64), (.int .i64), (.int .i64), .str, (.int .i64), (.int .i64)]) (.var 7)), (.x (.sl 50 [.str, (.int .i64)]) (.var 8))] false)⟩]⟩,
   9, [2, 3], [34, 35, 36, 37, 38, 41, 42, 43, 44, 45, 46, 47, 48, 49, 50, 51, 52, 53, 54, 55, 56, 57, 58, 59, 60, 7, 39, 40, 8], [(.exit 0)], []⟩
def lt24 : List (Nat × LoopSig) := [(5, L24_0)]
theorem k24 : (Code.loops c24).length = 1 := by kernel_rfl
noncomputable def lb24_0 : Code := (Code.loops c24).getD 0 .skip
def rt24_0 : VT :=
  (.ite (.bin .lt (.var 3) (.un .len (.var 8)))
   (.need (.t true) (.pre 44 (.cons (.var 4) (.cons (.var 5) (.cons (.var 6) (.cons (.var 7) (.cons (.var 8) (.cons (.var 3) (.cons (.var 0) .nil))))))))
   (.lt (.app 44 (.cons (.var 4) (.cons (.var 5) (.cons (.var 6) (.cons (.var 7) (.cons (.var 8) (.cons (.var 3) (.cons (.var 0) .nil))))))) 0) 1
   (.need (.var 9) (.pre 44 (.cons (.var 4) (.cons (.var 5) (.cons (.var 6) (.cons (.var 7) (.cons (.var 8) (.cons (.var 3) (.cons (.var 1) .nil))))))))
   (.lt (.app 44 (.cons (.var 4) (.cons (.var 5) (.cons (.var 6) (.cons (.var 7) (.cons (.var 8) (.cons (.var 3) (.cons (.var 1) .nil))))))) 0) 1
   (.need (.ite (.var 9) (.var 10) (.t false)) (.pre 46 (.cons (.var 4) (.cons (.var 5) (.cons (.var 6) (.cons (.var 7) (.cons (.var 8) (.cons (.var 3) .nil)))))))
   (.lt (.app 46 (.cons (.var 4) (.cons (.var 5) (.cons (.var 6) (.cons (.var 7) (.cons (.var 8) (.cons (.var 3) .nil)))))) 0) 1
   (.need (.ite (.var 9) (.var 10) (.t false)) (.pre 46 (.cons (.var 4) (.cons (.var 5) (.cons (.var 6) (.cons (.var 7) (.cons (.var 8) (.cons (.var 2) .nil)))))))
   (.lt (.app 46 (.cons (.var 4) (.cons (.var 5) (.cons (.var 6) (.cons (.var 7) (.cons (.var 8) (.cons (.var 2) .nil)))))) 0) 1
   (.ite (.ite (.ite (.var 9) (.var 10) (.t false)) (.bin .lt (.var 12) (.var 11)) (.t false))
    (.ret (.cons (.n (-1)) (.cons (.var 3) (.cons (.bin (.add .i64) (.var 3) (.n 1)) .nil))))
    (.ret (.cons (.n (-1)) (.cons (.var 2) (.cons (.bin (.add .i64) (.var 3) (.n 1)) .nil)))))))))))))
   (.ret (.cons (.n 0) (.cons (.var 2) (.cons (.var 3) .nil)))))
theorem le24_0 : (loopVT Try.prog (sgOf sg24) (ltOf lt24) L24_0 lb24_0).slim L24_0.nv [] = rt24_0 := by kernel_rfl
theorem lf24_0 : (firstRegion lb24_0).bind (ltOf lt24) = some L24_0 := by kernel_rfl
theorem lk24_0 : (Code.loops lb24_0).length = 0 := by kernel_rfl
def vt24 : VT :=
  (.need (.t true) (.pre 10 (.cons (.var 0) (.cons (.var 1) (.cons (.var 2) (.cons (.var 3) (.cons (.var 4) .nil))))))
  (.lt (.app 10 (.cons (.var 0) (.cons (.var 1) (.cons (.var 2) (.cons (.var 3) (.cons (.var 4) .nil))))) 0) 1
  (.ite (.ite (.ite (.ite (.ite (.un .not (.bin .eq (.var 7) (.n 0))) (.t true) (.bin .lt (.var 5) (.n 0))) (.t true) (.bin .le (.un .len (.var 2)) (.var 5))) (.t true) (.bin .lt (.var 6) (.n 0))) (.t true) (.bin .le (.un .len (.var 2)) (.var 6)))
   (.ret (.cons (.n (-1)) .nil))
   (.need (.t true) (.pre 12400 (.cons (.var 5) (.cons (.var 6) (.cons (.n (-1)) (.cons (.n 0) (.cons (.var 0) (.cons (.var 1) (.cons (.var 2) (.cons (.var 3) (.cons (.var 4) .nil))))))))))
   (.lt (.app 12400 (.cons (.var 5) (.cons (.var 6) (.cons (.n (-1)) (.cons (.n 0) (.cons (.var 0) (.cons (.var 1) (.cons (.var 2) (.cons (.var 3) (.cons (.var 4) .nil))))))))) 0) 3
   (.ret (.cons (.var 9) .nil)))))))
theorem e24 : (fnVT Try.prog (sgOf sg24) (ltOf lt24) S24 Try.f24 c24).slim (S24.ps.map fun p => p.2.length).sum [] = vt24 := by kernel_rfl

/-! ### 5 -/
def S5 : Sig := ⟨[(true, [.str, .bool, (.sl 48 [.str, .str, (.int .i64), (.int .i64), (.int .i64), (.sl 74 [.str, (.int .i64)])]), (.sl 56 [(.int .i64), (.int .i64), (.int .i64), (.int .i64), .str, (.int .i64), (.int .i64)]), (.sl 50 [.str, (.int .i64)])]), (false, [(.int .i64)]), (false, [(.int .i64)]), (false, [(.int .i64)])], [(false, [.bool])], [], none⟩
noncomputable def c5 : Code := Try.f5.body.getD .skip
theorem b5 : Try.f5.body = some c5 := body_some (by kernel_rfl)
theorem n5 : (Try.f5.name == "runtime.NumGoroutine") = false := by kernel_rfl
def sg5 : List (FuncId × Sig) := [(7, S7), (8, S8), (19, S19), (20, S20), (18, S18), (21, S21), (22, S22), (23, S23), (24, S24)]
def lt5 : List (Nat × LoopSig) := []
theorem k5 : (Code.loops c5).length = 0 := by kernel_rfl
def vt5 : VT :=
  (.need (.t true) (.pre 7 (.cons (.var 0) (.cons (.var 1) (.cons (.var 2) (.cons (.var 3) (.cons (.var 4) .nil))))))
  (.lt (.app 7 (.cons (.var 0) (.cons (.var 1) (.cons (.var 2) (.cons (.var 3) (.cons (.var 4) .nil))))) 0) 1
  (.ite (.un .not (.var 8))
   (.need (.t true) (.pre 8 .nil)
   (.lt (.app 8 .nil 0) 1
   (.ret (.cons (.var 9) .nil))))
   (.need (.t true) (.pre 19 (.cons (.var 0) (.cons (.var 1) (.cons (.var 2) (.cons (.var 3) (.cons (.var 4) (.cons (.var 5) .nil)))))))
   (.lt (.app 19 (.cons (.var 0) (.cons (.var 1) (.cons (.var 2) (.cons (.var 3) (.cons (.var 4) (.cons (.var 5) .nil)))))) 0) 1
   (.need (.t true) (.pre 20 (.cons (.var 0) (.cons (.var 1) (.cons (.var 2) (.cons (.var 3) (.cons (.var 4) (.cons (.var 5) .nil)))))))
   (.lt (.app 20 (.cons (.var 0) (.cons (.var 1) (.cons (.var 2) (.cons (.var 3) (.cons (.var 4) (.cons (.var 5) .nil)))))) 0) 1
   (.need (.t true) (.pre 18 (.cons (.var 9) (.cons (.var 10) .nil)))
   (.lt (.app 18 (.cons (.var 9) (.cons (.var 10) .nil)) 0) 1
   (.need (.var 11) (.pre 21 (.cons (.var 0) (.cons (.var 1) (.cons (.var 2) (.cons (.var 3) (.cons (.var 4) (.cons (.var 5) .nil)))))))
   (.lt (.app 21 (.cons (.var 0) (.cons (.var 1) (.cons (.var 2) (.cons (.var 3) (.cons (.var 4) (.cons (.var 5) .nil)))))) 0) 1
   (.need (.var 11) (.pre 22 (.cons (.var 0) (.cons (.var 1) (.cons (.var 2) (.cons (.var 3) (.cons (.var 4) (.cons (.var 5) .nil)))))))
   (.lt (.app 22 (.cons (.var 0) (.cons (.var 1) (.cons (.var 2) (.cons (.var 3) (.cons (.var 4) (.cons (.var 5) .nil)))))) 0) 1
   (.need (.ite (.var 11) (.bin .eq (.var 12) (.var 13)) (.t false)) (.pre 23 (.cons (.var 0) (.cons (.var 1) (.cons (.var 2) (.cons (.var 3) (.cons (.var 4) (.cons (.var 6) (.cons (.var 7) .nil))))))))
   (.lt (.app 23 (.cons (.var 0) (.cons (.var 1) (.cons (.var 2) (.cons (.var 3) (.cons (.var 4) (.cons (.var 6) (.cons (.var 7) .nil))))))) 0) 1
   (.need (.ite (.var 11) (.bin .eq (.var 12) (.var 13)) (.t false)) (.pre 24 (.cons (.var 0) (.cons (.var 1) (.cons (.var 2) (.cons (.var 3) (.cons (.var 4) (.cons (.var 6) (.cons (.var 7) .nil))))))))
   (.lt (.app 24 (.cons (.var 0) (.cons (.var 1) (.cons (.var 2) (.cons (.var 3) (.cons (.var 4) (.cons (.var 6) (.cons (.var 7) .nil))))))) 0) 1
   (.need (.ite (.ite (.var 11) (.bin .eq (.var 12) (.var 13)) (.t false)) (.bin .eq (.var 14) (.var 15)) (.t false)) (.pre 8 .nil)
   (.lt (.app 8 .nil 0) 1
   (.ret (.cons (.ite (.ite (.ite (.var 11) (.bin .eq (.var 12) (.var 13)) (.t false)) (.bin .eq (.var 14) (.var 15)) (.t false)) (.var 16) (.t false)) .nil)))))))))))))))))))))
theorem e5 : (fnVT Try.prog (sgOf sg5) (ltOf lt5) S5 Try.f5 c5).slim (S5.ps.map fun p => p.2.length).sum [] = vt5 := by kernel_rfl

/-! ### 25 -/
def S25 : Sig := ⟨[(false, [(.sl 3 [(.int .i64)])]), (false, [(.int .i64)])], [(false, [.bool])], [], none⟩
noncomputable def c25 : Code := Try.f25.body.getD .skip
theorem b25 : Try.f25.body = some c25 := body_some (by kernel_rfl)
theorem n25 : (Try.f25.name == "runtime.NumGoroutine") = false := by kernel_rfl
def sg25 : List (FuncId × Sig) := []
def L25_0 : LoopSig := ⟨12500, [],
   ⟨[(.c (.x (.sl 3 [(.int .i64)]) (.var 0))), (.c (.x (.int .i64) (.var 1))), .any, .any, (.c (.x .bool (.var 2))), (.c (.x (.int .i64) (.var 3))), .any, .any, .any, .any, .any, .any, .any, .any, .any, .any, .any, .any],
    []⟩,
   4, [2, 3], [6, 7, 8, 9, 12, 13, 14, 15, 16, 17, 4, 10, 11, 5], [.ret, (.exit 0)], []⟩
def lt25 : List (Nat × LoopSig) := [(2, L25_0)]
theorem k25 : (Code.loops c25).length = 1 := by kernel_rfl
noncomputable def lb25_0 : Code := (Code.loops c25).getD 0 .skip
def rt25_0 : VT :=
  (.ite (.bin .lt (.var 3) (.un .len (.var 0)))
   (.need (.t true) (.c (.bin .le (.n 0) (.var 3)))
   (.ite (.bin .eq (.sel 0 (.var 0) (.var 3)) (.var 1))
    (.ret (.cons (.n 0) (.cons (.t true) (.cons (.var 3) .nil))))
    (.ret (.cons (.n (-1)) (.cons (.var 2) (.cons (.bin (.add .i64) (.var 3) (.n 1)) .nil))))))
   (.ret (.cons (.n 1) (.cons (.var 2) (.cons (.var 3) .nil)))))
theorem le25_0 : (loopVT Try.prog (sgOf sg25) (ltOf lt25) L25_0 lb25_0).slim L25_0.nv [] = rt25_0 := by kernel_rfl
theorem lf25_0 : (firstRegion lb25_0).bind (ltOf lt25) = some L25_0 := by kernel_rfl
theorem lk25_0 : (Code.loops lb25_0).length = 0 := by kernel_rfl
def vt25 : VT :=
  (.need (.t true) (.pre 12500 (.cons (.var 0) (.cons (.var 1) (.cons (.t false) (.cons (.n 0) .nil)))))
  (.lt (.app 12500 (.cons (.var 0) (.cons (.var 1) (.cons (.t false) (.cons (.n 0) .nil)))) 0) 3
  (.ite (.bin .eq (.var 2) (.n 0))
   (.ret (.cons (.var 3) .nil))
   (.ret (.cons (.t false) .nil)))))
theorem e25 : (fnVT Try.prog (sgOf sg25) (ltOf lt25) S25 Try.f25 c25).slim (S25.ps.map fun p => p.2.length).sum [] = vt25 := by kernel_rfl

/-! ### 6 -/
def S6 : Sig := ⟨[(true, [.str, .bool, (.sl 48 [.str, .str, (.int .i64), (.int .i64), (.int .i64), (.sl 74 [.str, (.int .i64)])]), (.sl 56 [(.int .i64), (.int .i64), (.int .i64), (.int .i64), .str, (.int .i64), (.int .i64)]), (.sl 50 [.str, (.int .i64)])]), (false, [(.int .i64)]), (false, [(.int .i64)])], [(false, [.bool])], [], none⟩
noncomputable def c6 : Code := Try.f6.body.getD .skip
theorem b6 : Try.f6.body = some c6 := body_some (by kernel_rfl)
theorem n6 : (Try.f6.name == "runtime.NumGoroutine") = false := by kernel_rfl
def sg6 : List (FuncId × Sig) := [(7, S7), (10, S10), (8, S8), (23, S23), (19, S19), (25, S25)]
def L6_0 : LoopSig := ⟨10602, [],
   ⟨[.any, (.c (.x (.int .i64) (.var 0))), (.c (.x (.int .i64) (.var 1))), (.c (.ptr 0 0)), .any, .any, (.c (.x .bool (.var 2))), .any, (.c (.x (.sl 3 [(.int .i64)]) (.var 3))), (.c (.x (.int .i64) (.var 4))), .any, .any, .any, .any, .any, .any, .any, .any, .any, .any, .any, .any, .any, .any, .any, .any, .any, .any, .any, .any, .any, .any, .any, .any, .any, .any, .any, .any, .any, .any, .any, .any, .any, .any, .any, .any, .any, .any, .any, .any, .any, .any, .any, .any, .any, .any, .any, .any, .any, .any, .any, .any, .any, .any, .any, .any, .any, .any, .any, .any, .any, .any, .any, .any, .any, .any, .any, .any, .any, .any, .any, .any, .any, .any, .any, .any, .any, .any, .any, .any, .any, .any, .any, .any, .any, .any, .any, .any, .any, .any, .any, .any, .any, .any, .any, .any, .any, .any, .any, .any, .any, .any, .any, .any, .any, .any, .any, .any, .any, .any, .any, .any, .any, .any, .any, .any, .any, .any, .any, .any, .any, .any, .any, .any, .any, .any, .any, .any, .any, .any, .any, .any, .any, .any],
    [some ⟨(.t true), (.box 26 [(.x .str (.var 5)), (.x .bool (.var 6)), (.x (.sl 48 [.str, .str, (.int .i64), (.int .i64), (.int .i64), (.sl 74 [.str, (.int .i64)])]) (.var 7)), (.x (.sl 56 [(.int .i64), (.int .i64), (.int .i64), (.int .i64), .str, (.int .i64), (.int .i64)]) (.var 8)), (.x (.sl 50 [.str, (.int .i64)]) (.var 9))] false)⟩]⟩,
   10, [2, 4], [89, 90, 91, 92, 93, 96, 97, 98, 99, 100, 101, 102, 103, 104, 105, 106, 10, 11, 12, 107, 108, 109, 110, 113, 114, 115, 116, 117, 118, 119, 6, 111, 112, 120, 121, 122, 123, 124, 125, 126, 127, 128, 129, 13, 130, 131, 132, 133, 136, 137, 138, 139, 140, 141, 142, 134, 135, 94, 95, 9], [.ret, (.exit 0)], []⟩
def L6_1 : LoopSig := ⟨10600, [],
   ⟨[.any, .any, .any, .any, .any, .any, (.c (.x .bool (.var 0))), .any, .any, .any, (.c (.x (.sl 3 [(.int .i64)]) (.var 1))), (.c (.x (.sl 3 [(.int .i64)]) (.var 2))), (.c (.x (.int .i64) (.var 3))), .any, .any, .any, .any, .any, .any, .any, .any, .any, .any, .any, .any, .any, .any, .any, .any, .any, .any, .any, .any, .any, .any, .any, .any, .any, .any, .any, .any, .any, .any, .any, .any, .any, .any, .any, .any, .any, .any, .any, .any, .any, .any, .any, .any, .any, .any, .any, .any, .any, .any, .any, .any, .any, .any, .any, .any, .any, .any, .any, .any, .any, .any, .any, .any, .any, .any, .any, .any, .any, .any, .any, .any, .any, .any, .any, .any, .any, .any, .any, .any, .any, .any, .any, .any, .any, .any, .any, .any, .any, .any, .any, .any, .any, .any, .any, .any, .any, .any, .any, .any, .any, .any, .any, .any, .any, .any, .any, .any, .any, .any, .any, .any, .any, .any, .any, .any, .any, .any, .any, .any, .any, .any, .any, .any, .any, .any, .any, .any, .any, .any, .any],
    [none]⟩,
   4, [0, 3], [107, 108, 109, 110, 113, 114, 115, 116, 117, 118, 119, 6, 111, 112, 12], [.ret, (.exit 2)], []⟩
def L6_2 : LoopSig := ⟨10601, [],
   ⟨[.any, .any, .any, .any, .any, .any, (.c (.x .bool (.var 0))), .any, (.c (.x (.sl 3 [(.int .i64)]) (.var 1))), .any, (.c (.x (.sl 3 [(.int .i64)]) (.var 2))), .any, .any, (.c (.x (.int .i64) (.var 3))), .any, .any, .any, .any, .any, .any, .any, .any, .any, .any, .any, .any, .any, .any, .any, .any, .any, .any, .any, .any, .any, .any, .any, .any, .any, .any, .any, .any, .any, .any, .any, .any, .any, .any, .any, .any, .any, .any, .any, .any, .any, .any, .any, .any, .any, .any, .any, .any, .any, .any, .any, .any, .any, .any, .any, .any, .any, .any, .any, .any, .any, .any, .any, .any, .any, .any, .any, .any, .any, .any, .any, .any, .any, .any, .any, .any, .any, .any, .any, .any, .any, .any, .any, .any, .any, .any, .any, .any, .any, .any, .any, .any, .any, .any, .any, .any, .any, .any, .any, .any, .any, .any, .any, .any, .any, .any, .any, .any, .any, .any, .any, .any, .any, .any, .any, .any, .any, .any, .any, .any, .any, .any, .any, .any, .any, .any, .any, .any, .any, .any],
    [none]⟩,
   4, [0, 3], [130, 131, 132, 133, 136, 137, 138, 139, 140, 141, 142, 6, 134, 135, 13], [.ret, (.exit 4)], []⟩
def lt6 : List (Nat × LoopSig) := [(8, L6_0), (12, L6_1), (18, L6_2)]
theorem k6 : (Code.loops c6).length = 3 := by kernel_rfl
noncomputable def lb6_0 : Code := (Code.loops c6).getD 0 .skip
noncomputable def lb6_1 : Code := (Code.loops c6).getD 1 .skip
noncomputable def lb6_2 : Code := (Code.loops c6).getD 2 .skip
def rt6_0 : VT :=
  (.ite (.bin .lt (.var 4) (.un .len (.var 9)))
   (.need (.t true) (.pre 19 (.cons (.var 5) (.cons (.var 6) (.cons (.var 7) (.cons (.var 8) (.cons (.var 9) (.cons (.var 4) .nil)))))))
   (.lt (.app 19 (.cons (.var 5) (.cons (.var 6) (.cons (.var 7) (.cons (.var 8) (.cons (.var 9) (.cons (.var 4) .nil)))))) 0) 1
   (.need (.t true) (.c (.bin .le (.n 0) (.var 4)))
   (.need (.t true) (.pre 19 (.cons (.var 5) (.cons (.var 6) (.cons (.var 7) (.cons (.var 8) (.cons (.var 9) (.cons (.sel 1 (.var 9) (.var 4)) .nil)))))))
   (.lt (.app 19 (.cons (.var 5) (.cons (.var 6) (.cons (.var 7) (.cons (.var 8) (.cons (.var 9) (.cons (.sel 1 (.var 9) (.var 4)) .nil)))))) 0) 1
   (.need (.t true) (.pre 10600 (.cons (.var 2) (.cons (.var 10) (.cons (.var 11) (.cons (.n 0) .nil)))))
   (.lt (.app 10600 (.cons (.var 2) (.cons (.var 10) (.cons (.var 11) (.cons (.n 0) .nil)))) 0) 3
   (.ite (.bin .eq (.var 12) (.n 0))
    (.ret (.cons (.n 0) (.cons (.var 13) (.cons (.var 4) .nil))))
    (.need (.t true) (.pre 25 (.cons (.var 10) (.cons (.var 0) .nil)))
    (.lt (.app 25 (.cons (.var 10) (.cons (.var 0) .nil)) 0) 1
    (.need (.var 15) (.pre 25 (.cons (.var 10) (.cons (.var 1) .nil)))
    (.lt (.app 25 (.cons (.var 10) (.cons (.var 1) .nil)) 0) 1
    (.ite (.ite (.un .not (.var 15)) (.t true) (.un .not (.var 16)))
     (.ret (.cons (.n (-1)) (.cons (.var 13) (.cons (.bin (.add .i64) (.var 4) (.n 1)) .nil))))
     (.need (.t true) (.pre 10601 (.cons (.var 13) (.cons (.var 3) (.cons (.var 10) (.cons (.n 0) .nil)))))
     (.lt (.app 10601 (.cons (.var 13) (.cons (.var 3) (.cons (.var 10) (.cons (.n 0) .nil)))) 0) 3
     (.ite (.bin .eq (.var 17) (.n 0))
      (.ret (.cons (.n 0) (.cons (.var 18) (.cons (.var 4) .nil))))
      (.ret (.cons (.n (-1)) (.cons (.var 18) (.cons (.bin (.add .i64) (.var 4) (.n 1)) .nil))))))))))))))))))))
   (.ret (.cons (.n 1) (.cons (.var 2) (.cons (.var 4) .nil)))))
theorem le6_0 : (loopVT Try.prog (sgOf sg6) (ltOf lt6) L6_0 lb6_0).slim L6_0.nv [] = rt6_0 := by kernel_rfl
theorem lf6_0 : (firstRegion lb6_0).bind (ltOf lt6) = some L6_0 := by kernel_rfl
theorem lk6_0 : (Code.loops lb6_0).length = 2 := by kernel_rfl
theorem li6_0_0 : (Code.loops lb6_0).getD 0 .skip = lb6_1 := by kernel_rfl
theorem li6_0_1 : (Code.loops lb6_0).getD 1 .skip = lb6_2 := by kernel_rfl
def rt6_1 : VT :=
  (.ite (.bin .lt (.var 3) (.un .len (.var 1)))
   (.need (.t true) (.c (.bin .le (.n 0) (.var 3)))
   (.need (.t true) (.pre 25 (.cons (.var 2) (.cons (.sel 0 (.var 1) (.var 3)) .nil)))
   (.lt (.app 25 (.cons (.var 2) (.cons (.sel 0 (.var 1) (.var 3)) .nil)) 0) 1
   (.ite (.un .not (.var 4))
    (.ret (.cons (.n 0) (.cons (.t false) (.cons (.var 3) .nil))))
    (.ret (.cons (.n (-1)) (.cons (.var 0) (.cons (.bin (.add .i64) (.var 3) (.n 1)) .nil))))))))
   (.ret (.cons (.n 1) (.cons (.var 0) (.cons (.var 3) .nil)))))
theorem le6_1 : (loopVT Try.prog (sgOf sg6) (ltOf lt6) L6_1 lb6_1).slim L6_1.nv [] = rt6_1 := by kernel_rfl
theorem lf6_1 : (firstRegion lb6_1).bind (ltOf lt6) = some L6_1 := by kernel_rfl
theorem lk6_1 : (Code.loops lb6_1).length = 0 := by kernel_rfl
def rt6_2 : VT :=
  (.ite (.bin .lt (.var 3) (.un .len (.var 1)))
   (.need (.t true) (.c (.bin .le (.n 0) (.var 3)))
   (.need (.t true) (.pre 25 (.cons (.var 2) (.cons (.sel 0 (.var 1) (.var 3)) .nil)))
   (.lt (.app 25 (.cons (.var 2) (.cons (.sel 0 (.var 1) (.var 3)) .nil)) 0) 1
   (.ite (.un .not (.var 4))
    (.ret (.cons (.n 0) (.cons (.t false) (.cons (.var 3) .nil))))
    (.ret (.cons (.n (-1)) (.cons (.var 0) (.cons (.bin (.add .i64) (.var 3) (.n 1)) .nil))))))))
   (.ret (.cons (.n 1) (.cons (.var 0) (.cons (.var 3) .nil)))))
theorem le6_2 : (loopVT Try.prog (sgOf sg6) (ltOf lt6) L6_2 lb6_2).slim L6_2.nv [] = rt6_2 := by kernel_rfl
theorem lf6_2 : (firstRegion lb6_2).bind (ltOf lt6) = some L6_2 := by kernel_rfl
theorem lk6_2 : (Code.loops lb6_2).length = 0 := by kernel_rfl
def vt6 : VT :=
  (.need (.t true) (.pre 7 (.cons (.var 0) (.cons (.var 1) (.cons (.var 2) (.cons (.var 3) (.cons (.var 4) .nil))))))
  (.lt (.app 7 (.cons (.var 0) (.cons (.var 1) (.cons (.var 2) (.cons (.var 3) (.cons (.var 4) .nil))))) 0) 1
  (.need (.un .not (.ite (.un .not (.var 7)) (.t true) (.bin .lt (.n 20) (.un .len (.var 2))))) (.pre 10 (.cons (.var 0) (.cons (.var 1) (.cons (.var 2) (.cons (.var 3) (.cons (.var 4) .nil))))))
  (.lt (.app 10 (.cons (.var 0) (.cons (.var 1) (.cons (.var 2) (.cons (.var 3) (.cons (.var 4) .nil))))) 0) 1
  (.ite (.ite (.ite (.ite (.ite (.ite (.ite (.un .not (.var 7)) (.t true) (.bin .lt (.n 20) (.un .len (.var 2)))) (.t true) (.un .not (.bin .eq (.var 8) (.n 0)))) (.t true) (.bin .lt (.var 5) (.n 0))) (.t true) (.bin .le (.un .len (.var 2)) (.var 5))) (.t true) (.bin .lt (.var 6) (.n 0))) (.t true) (.bin .le (.un .len (.var 2)) (.var 6)))
   (.need (.t true) (.pre 8 .nil)
   (.lt (.app 8 .nil 0) 1
   (.ret (.cons (.var 9) .nil))))
   (.need (.t true) (.pre 23 (.cons (.var 0) (.cons (.var 1) (.cons (.var 2) (.cons (.var 3) (.cons (.var 4) (.cons (.var 5) (.cons (.var 6) .nil))))))))
   (.lt (.app 23 (.cons (.var 0) (.cons (.var 1) (.cons (.var 2) (.cons (.var 3) (.cons (.var 4) (.cons (.var 5) (.cons (.var 6) .nil))))))) 0) 1
   (.need (.t true) (.pre 19 (.cons (.var 0) (.cons (.var 1) (.cons (.var 2) (.cons (.var 3) (.cons (.var 4) (.cons (.var 9) .nil)))))))
   (.lt (.app 19 (.cons (.var 0) (.cons (.var 1) (.cons (.var 2) (.cons (.var 3) (.cons (.var 4) (.cons (.var 9) .nil)))))) 0) 1
   (.need (.t true) (.pre 25 (.cons (.var 10) (.cons (.var 5) .nil)))
   (.lt (.app 25 (.cons (.var 10) (.cons (.var 5) .nil)) 0) 1
   (.need (.var 11) (.pre 25 (.cons (.var 10) (.cons (.var 6) .nil)))
   (.lt (.app 25 (.cons (.var 10) (.cons (.var 6) .nil)) 0) 1
   (.need (.un .not (.ite (.un .not (.var 11)) (.t true) (.un .not (.var 12)))) (.pre 23 (.cons (.var 0) (.cons (.var 1) (.cons (.var 2) (.cons (.var 3) (.cons (.var 4) (.cons (.var 6) (.cons (.var 5) .nil))))))))
   (.lt (.app 23 (.cons (.var 0) (.cons (.var 1) (.cons (.var 2) (.cons (.var 3) (.cons (.var 4) (.cons (.var 6) (.cons (.var 5) .nil))))))) 0) 1
   (.need (.un .not (.ite (.ite (.un .not (.var 11)) (.t true) (.un .not (.var 12))) (.t true) (.un .not (.bin .eq (.var 9) (.var 13))))) (.pre 23 (.cons (.var 0) (.cons (.var 1) (.cons (.var 2) (.cons (.var 3) (.cons (.var 4) (.cons (.var 5) (.cons (.var 5) .nil))))))))
   (.lt (.app 23 (.cons (.var 0) (.cons (.var 1) (.cons (.var 2) (.cons (.var 3) (.cons (.var 4) (.cons (.var 5) (.cons (.var 5) .nil))))))) 0) 1
   (.need (.un .not (.ite (.ite (.un .not (.var 11)) (.t true) (.un .not (.var 12))) (.t true) (.un .not (.bin .eq (.var 9) (.var 13))))) (.c (.bin .le (.n 0) (.var 5)))
   (.need (.un .not (.ite (.ite (.un .not (.var 11)) (.t true) (.un .not (.var 12))) (.t true) (.un .not (.bin .eq (.var 9) (.var 13))))) (.c (.bin .lt (.var 5) (.un .len (.var 2))))
   (.ite (.ite (.ite (.ite (.un .not (.var 11)) (.t true) (.un .not (.var 12))) (.t true) (.un .not (.bin .eq (.var 9) (.var 13)))) (.t true) (.un .not (.bin .eq (.var 14) (.sel 4 (.var 2) (.var 5)))))
    (.ret (.cons (.t false) .nil))
    (.need (.t true) (.pre 10602 (.cons (.var 5) (.cons (.var 6) (.cons (.t false) (.cons (.var 10) (.cons (.n 0) (.cons (.var 0) (.cons (.var 1) (.cons (.var 2) (.cons (.var 3) (.cons (.var 4) .nil)))))))))))
    (.lt (.app 10602 (.cons (.var 5) (.cons (.var 6) (.cons (.t false) (.cons (.var 10) (.cons (.n 0) (.cons (.var 0) (.cons (.var 1) (.cons (.var 2) (.cons (.var 3) (.cons (.var 4) .nil)))))))))) 0) 3
    (.ite (.bin .eq (.var 15) (.n 0))
     (.ret (.cons (.var 16) .nil))
     (.need (.t true) (.pre 8 .nil)
     (.lt (.app 8 .nil 0) 1
     (.ret (.cons (.var 18) .nil)))))))))))))))))))))))))))
theorem e6 : (fnVT Try.prog (sgOf sg6) (ltOf lt6) S6 Try.f6 c6).slim (S6.ps.map fun p => p.2.length).sum [] = vt6 := by kernel_rfl

end Go.Proofs.Ytjdhicmkkmfcgaa.rv
