/-
  The functions of the program as they are run: printed by program.
-/
import Derived.Test.YtoajdhghecjdlaaChecked
import Derived.Test.YtoajdhghecjdlaaZTopPackedJ
namespace Go.Proofs.Ytoajdhghecjdlaa.rv
open Go.RV
set_option maxRecDepth 100000
abbrev i6 : CT := .int .i64
theorem mixed : Try.prog.follows .mixedOrders = true := by kernel_rfl
def S20036 : Sig := ⟨[(false, [.clo]), (true, [i6, i6, i6, i6])], [(false, [.bool])], [], none⟩
def S20004 : Sig := ⟨[(false, [.clo]), (false, [i6])], [(false, [.bool])], [], none⟩
def S20006 : Sig := ⟨[(false, [.clo]), (false, [(.int .u8)])], [(false, [.bool])], [], none⟩
def S20044 : Sig := ⟨[(false, [.clo]), (true, [.str, .str, i6, i6, i6, (.sl 116 [.str, i6])])], [(false, [.bool])], [], none⟩
def S20106 : Sig := ⟨[(false, [.clo]), (true, [.str, i6])], [(false, [.bool])], [], none⟩
def S24004 : Sig := ⟨[(false, [.clo]), (false, [i6]), (false, [i6])], [(false, [i6])], [], none⟩
def S20117 : Sig := ⟨[(false, [.clo]), (true, [.str, i6])], [(false, [.bool])], [], none⟩
def S20027 : Sig := ⟨[(false, [.clo]), (true, [i6, i6])], [(false, [.bool])], [], none⟩
def S61 : Sig := ⟨[(false, [(.int .u8)])], [(false, [.bool])], [], none⟩
noncomputable def c61 : Code := Try.f61.body.getD .skip
theorem b61 : Try.f61.body = some c61 := body_some (by kernel_rfl)
theorem n61 : (Try.f61.name == "runtime.NumGoroutine") = false := by kernel_rfl
def sg61 : List (FuncId × Sig) := []
def lt61 : List (Nat × LoopSig) := []
theorem k61 : (Code.loops c61).length = 0 := by kernel_rfl
def vt61 : VT :=
  (.ret (.cons (.ite (.ite (.ite (.bin .le (.n 97) (.var 0)) (.bin .le (.var 0) (.n 122)) (.t false)) (.t true) (.ite (.bin .le (.n 65) (.var 0)) (.bin .le (.var 0) (.n 90)) (.t false))) (.t true) (.bin .eq (.var 0) (.n 95))) .nil))
theorem e61 : (fnVT Try.prog (sgOf sg61) (ltOf lt61) S61 Try.f61 c61).slim (S61.ps.map fun p => p.2.length).sum [] = vt61 := by kernel_rfl
def T61 : FuncId → List D → List D := tabOf []
def fn61 (ρ : List D) : List D := vt61.val T61 ρ
theorem m61 : Meets Try.prog 61 S61 (fun _ => True) fn61 := meets_easy (sgl := sg61) (Φ := T61) mixed ((fun _ h => nomatch h)) Try.func61 b61 n61 k61 e61 (by kernel_rfl)
def S62 : Sig := ⟨[(false, [(.int .u8)])], [(false, [.bool])], [], none⟩
noncomputable def c62 : Code := Try.f62.body.getD .skip
theorem b62 : Try.f62.body = some c62 := body_some (by kernel_rfl)
theorem n62 : (Try.f62.name == "runtime.NumGoroutine") = false := by kernel_rfl
def sg62 : List (FuncId × Sig) := []
def lt62 : List (Nat × LoopSig) := []
theorem k62 : (Code.loops c62).length = 0 := by kernel_rfl
def vt62 : VT :=
  (.ret (.cons (.ite (.bin .le (.n 48) (.var 0)) (.bin .le (.var 0) (.n 57)) (.t false)) .nil))
theorem e62 : (fnVT Try.prog (sgOf sg62) (ltOf lt62) S62 Try.f62 c62).slim (S62.ps.map fun p => p.2.length).sum [] = vt62 := by kernel_rfl
def T62 : FuncId → List D → List D := tabOf []
def fn62 (ρ : List D) : List D := vt62.val T62 ρ
theorem m62 : Meets Try.prog 62 S62 (fun _ => True) fn62 := meets_easy (sgl := sg62) (Φ := T62) mixed ((fun _ h => nomatch h)) Try.func62 b62 n62 k62 e62 (by kernel_rfl)
def S50 : Sig := ⟨[(false, [.str])], [(false, [i6])], [], none⟩
noncomputable def c50 : Code := Try.f50.body.getD .skip
theorem b50 : Try.f50.body = some c50 := body_some (by kernel_rfl)
theorem n50 : (Try.f50.name == "runtime.NumGoroutine") = false := by kernel_rfl
def sg50 : List (FuncId × Sig) := [(61, S61), (62, S62)]
def L50_0 : LoopSig := ⟨15000, [],
   ⟨[(.c (.x .str (.var 0))), .any, .any, (.c (.x i6 (.var 1))), .any, .any, .any, .any, .any, .any, .any, .any, .any, .any, .any, .any, .any, .any, .any, .any, .any, .any, .any, .any, .any, .any, .any],
    []⟩,
   2, [1], [4, 5, 6, 7, 8, 9, 10, 11, 12, 13, 14, 15, 16, 17, 18, 19, 20, 21, 22, 23, 24, 25, 3], [(.exit 0)], []⟩
def lt50 : List (Nat × LoopSig) := [(2, L50_0)]
theorem k50 : (Code.loops c50).length = 1 := by kernel_rfl
noncomputable def lb50_0 : Code := (Code.loops c50).getD 0 .skip
def rt50_0 : VT :=
  (.need (.bin .lt (.var 1) (.un .slen (.var 0))) (.c (.bin .le (.n 0) (.var 1)))
  (.need (.bin .lt (.var 1) (.un .slen (.var 0))) (.c (.bin .lt (.var 1) (.un .slen (.var 0))))
  (.need (.bin .lt (.var 1) (.un .slen (.var 0))) (.pre 61 (.cons (.bin .sidx (.var 0) (.var 1)) .nil))
  (.lt (.app 61 (.cons (.bin .sidx (.var 0) (.var 1)) .nil) 0) 1
  (.need (.ite (.ite (.bin .lt (.var 1) (.un .slen (.var 0))) (.un .not (.var 2)) (.t false)) (.bin .lt (.n 0) (.var 1)) (.t false)) (.c (.bin .le (.n 0) (.var 1)))
  (.need (.ite (.ite (.bin .lt (.var 1) (.un .slen (.var 0))) (.un .not (.var 2)) (.t false)) (.bin .lt (.n 0) (.var 1)) (.t false)) (.c (.bin .lt (.var 1) (.un .slen (.var 0))))
  (.need (.ite (.ite (.bin .lt (.var 1) (.un .slen (.var 0))) (.un .not (.var 2)) (.t false)) (.bin .lt (.n 0) (.var 1)) (.t false)) (.pre 62 (.cons (.bin .sidx (.var 0) (.var 1)) .nil))
  (.lt (.app 62 (.cons (.bin .sidx (.var 0) (.var 1)) .nil) 0) 1
  (.ite (.ite (.bin .lt (.var 1) (.un .slen (.var 0))) (.ite (.var 2) (.t true) (.ite (.bin .lt (.n 0) (.var 1)) (.var 3) (.t false))) (.t false))
   (.ret (.cons (.n (-1)) (.cons (.bin (.add .i64) (.var 1) (.n 1)) .nil)))
   (.ret (.cons (.n 0) (.cons (.var 1) .nil))))))))))))
theorem le50_0 : (loopVT Try.prog (sgOf sg50) (ltOf lt50) L50_0 lb50_0).slim L50_0.nv [] = rt50_0 := by kernel_rfl
theorem lf50_0 : (firstRegion lb50_0).bind (ltOf lt50) = some L50_0 := by kernel_rfl
theorem lk50_0 : (Code.loops lb50_0).length = 0 := by kernel_rfl
def vt50 : VT :=
  (.need (.t true) (.pre 15000 (.cons (.var 0) (.cons (.n 0) .nil)))
  (.lt (.app 15000 (.cons (.var 0) (.cons (.n 0) .nil)) 0) 2
  (.ret (.cons (.var 2) .nil))))
theorem e50 : (fnVT Try.prog (sgOf sg50) (ltOf lt50) S50 Try.f50 c50).slim (S50.ps.map fun p => p.2.length).sum [] = vt50 := by kernel_rfl
def S51 : Sig := ⟨[(false, [.str])], [(false, [.bool])], [], none⟩
noncomputable def c51 : Code := Try.f51.body.getD .skip
theorem b51 : Try.f51.body = some c51 := body_some (by kernel_rfl)
theorem n51 : (Try.f51.name == "runtime.NumGoroutine") = false := by kernel_rfl
def sg51 : List (FuncId × Sig) := []
def lt51 : List (Nat × LoopSig) := []
theorem k51 : (Code.loops c51).length = 0 := by kernel_rfl
def vt51 : VT :=
  (.ite (.bin .seq (.var 0) (.str ⟨#[100, 105, 103, 114, 97, 112, 104]⟩))
   (.ret (.cons (.t true) .nil))
   (.ite (.bin .seq (.var 0) (.str ⟨#[103, 114, 97, 112, 104]⟩))
    (.ret (.cons (.t true) .nil))
    (.ite (.bin .seq (.var 0) (.str ⟨#[110, 111, 100, 101]⟩))
     (.ret (.cons (.t true) .nil))
     (.ite (.bin .seq (.var 0) (.str ⟨#[101, 100, 103, 101]⟩))
      (.ret (.cons (.t true) .nil))
      (.ite (.bin .seq (.var 0) (.str ⟨#[115, 101, 116]⟩))
       (.ret (.cons (.t true) .nil))
       (.ite (.bin .seq (.var 0) (.str ⟨#[99, 108, 117, 115, 116, 101, 114]⟩))
        (.ret (.cons (.t true) .nil))
        (.ret (.cons (.t false) .nil))))))))
theorem e51 : (fnVT Try.prog (sgOf sg51) (ltOf lt51) S51 Try.f51 c51).slim (S51.ps.map fun p => p.2.length).sum [] = vt51 := by kernel_rfl
def T51 : FuncId → List D → List D := tabOf []
def fn51 (ρ : List D) : List D := vt51.val T51 ρ
theorem m51 : Meets Try.prog 51 S51 (fun _ => True) fn51 := meets_easy (sgl := sg51) (Φ := T51) mixed ((fun _ h => nomatch h)) Try.func51 b51 n51 k51 e51 (by kernel_rfl)
def S37 : Sig := ⟨[(false, [.str])], [(false, [.bool])], [], none⟩
noncomputable def c37 : Code := Try.f37.body.getD .skip
theorem b37 : Try.f37.body = some c37 := body_some (by kernel_rfl)
theorem n37 : (Try.f37.name == "runtime.NumGoroutine") = false := by kernel_rfl
def sg37 : List (FuncId × Sig) := [(50, S50), (51, S51)]
def lt37 : List (Nat × LoopSig) := []
theorem k37 : (Code.loops c37).length = 0 := by kernel_rfl
def vt37 : VT :=
  (.need (.ite (.un .not (.bin .seq (.var 0) (.str ⟨#[]⟩))) (.bin .le (.un .slen (.var 0)) (.n 16)) (.t false)) (.pre 50 (.cons (.var 0) .nil))
  (.lt (.app 50 (.cons (.var 0) .nil) 0) 1
  (.need (.ite (.ite (.un .not (.bin .seq (.var 0) (.str ⟨#[]⟩))) (.bin .le (.un .slen (.var 0)) (.n 16)) (.t false)) (.bin .eq (.var 1) (.un .slen (.var 0))) (.t false)) (.pre 51 (.cons (.var 0) .nil))
  (.lt (.app 51 (.cons (.var 0) .nil) 0) 1
  (.ret (.cons (.ite (.ite (.ite (.un .not (.bin .seq (.var 0) (.str ⟨#[]⟩))) (.bin .le (.un .slen (.var 0)) (.n 16)) (.t false)) (.bin .eq (.var 1) (.un .slen (.var 0))) (.t false)) (.un .not (.var 2)) (.t false)) .nil))))))
theorem e37 : (fnVT Try.prog (sgOf sg37) (ltOf lt37) S37 Try.f37 c37).slim (S37.ps.map fun p => p.2.length).sum [] = vt37 := by kernel_rfl
def S64 : Sig := ⟨[(true, [.str, .str, i6, i6, i6, (.sl 116 [.str, i6])]), (false, [(.pt [.str])])], [(false, [.bool])], [], none⟩
noncomputable def c64 : Code := Try.f64.body.getD .skip
theorem b64 : Try.f64.body = some c64 := body_some (by kernel_rfl)
theorem n64 : (Try.f64.name == "runtime.NumGoroutine") = false := by kernel_rfl
def sg64 : List (FuncId × Sig) := []
def lt64 : List (Nat × LoopSig) := []
theorem k64 : (Code.loops c64).length = 0 := by kernel_rfl
def vt64 : VT :=
  (.ret (.cons (.bin .seq (.var 0) (.psel 0 (.var 6))) .nil))
theorem e64 : (fnVT Try.prog (sgOf sg64) (ltOf lt64) S64 Try.f64 c64).slim (S64.ps.map fun p => p.2.length).sum [] = vt64 := by kernel_rfl
def T64 : FuncId → List D → List D := tabOf []
def fn64 (ρ : List D) : List D := vt64.val T64 ρ
theorem m64 : Meets Try.prog 64 S64 (fun _ => True) fn64 := meets_easy (sgl := sg64) (Φ := T64) mixed ((fun _ h => nomatch h)) Try.func64 b64 n64 k64 e64 (by kernel_rfl)
def S63 : Sig := ⟨[(false, [(.sl 43 [.str, .str, i6, i6, i6, (.sl 116 [.str, i6])])]), (false, [.clo])], [(false, [i6])], [], none⟩
noncomputable def c63 : Code := Try.f63.body.getD .skip
theorem b63 : Try.f63.body = some c63 := body_some (by kernel_rfl)
theorem n63 : (Try.f63.name == "runtime.NumGoroutine") = false := by kernel_rfl
def sg63 : List (FuncId × Sig) := [(20044, S20044)]
def L63_0 : LoopSig := ⟨16300, [],
   ⟨[(.c (.x (.sl 43 [.str, .str, i6, i6, i6, (.sl 116 [.str, i6])]) (.var 0))), (.c (.x .clo (.var 1))), .any, .any, (.c (.x i6 (.var 2))), .any, .any, (.c (.x i6 (.var 3))), (.c (.x i6 (.var 4))), .any, .any, .any, .any, .any, .any, .any, .any, .any, .any],
    []⟩,
   5, [2, 4], [9, 10, 5, 11, 12, 13, 14, 15, 16, 17, 4, 18, 8], [.ret, (.exit 0)], []⟩
def lt63 : List (Nat × LoopSig) := [(2, L63_0)]
theorem k63 : (Code.loops c63).length = 1 := by kernel_rfl
noncomputable def lb63_0 : Code := (Code.loops c63).getD 0 .skip
def rt63_0 : VT :=
  (.ite (.bin .lt (.var 4) (.var 3))
   (.need (.t true) (.c (.bin .le (.n 0) (.var 4)))
   (.need (.t true) (.c (.bin .lt (.var 4) (.un .len (.var 0))))
   (.need (.t true) (.pre 20044 (.cons (.var 1) (.cons (.sel 0 (.var 0) (.var 4)) (.cons (.sel 1 (.var 0) (.var 4)) (.cons (.sel 2 (.var 0) (.var 4)) (.cons (.sel 3 (.var 0) (.var 4)) (.cons (.sel 4 (.var 0) (.var 4)) (.cons (.sel 5 (.var 0) (.var 4)) .nil))))))))
   (.lt (.app 20044 (.cons (.var 1) (.cons (.sel 0 (.var 0) (.var 4)) (.cons (.sel 1 (.var 0) (.var 4)) (.cons (.sel 2 (.var 0) (.var 4)) (.cons (.sel 3 (.var 0) (.var 4)) (.cons (.sel 4 (.var 0) (.var 4)) (.cons (.sel 5 (.var 0) (.var 4)) .nil))))))) 0) 1
   (.ite (.var 5)
    (.ret (.cons (.n 0) (.cons (.var 4) (.cons (.var 4) .nil))))
    (.ret (.cons (.n (-1)) (.cons (.var 2) (.cons (.bin (.add .i64) (.var 4) (.n 1)) .nil)))))))))
   (.ret (.cons (.n 1) (.cons (.var 2) (.cons (.var 4) .nil)))))
theorem le63_0 : (loopVT Try.prog (sgOf sg63) (ltOf lt63) L63_0 lb63_0).slim L63_0.nv [] = rt63_0 := by kernel_rfl
theorem lf63_0 : (firstRegion lb63_0).bind (ltOf lt63) = some L63_0 := by kernel_rfl
theorem lk63_0 : (Code.loops lb63_0).length = 0 := by kernel_rfl
def vt63 : VT :=
  (.need (.t true) (.pre 16300 (.cons (.var 0) (.cons (.var 1) (.cons (.n 0) (.cons (.un .len (.var 0)) (.cons (.n 0) .nil))))))
  (.lt (.app 16300 (.cons (.var 0) (.cons (.var 1) (.cons (.n 0) (.cons (.un .len (.var 0)) (.cons (.n 0) .nil))))) 0) 3
  (.ite (.bin .eq (.var 2) (.n 0))
   (.ret (.cons (.var 3) .nil))
   (.ret (.cons (.n (-1)) .nil)))))
theorem e63 : (fnVT Try.prog (sgOf sg63) (ltOf lt63) S63 Try.f63 c63).slim (S63.ps.map fun p => p.2.length).sum [] = vt63 := by kernel_rfl
def S52 : Sig := ⟨[(true, [.str, .bool, (.sl 43 [.str, .str, i6, i6, i6, (.sl 116 [.str, i6])]), (.sl 73 [i6, i6, i6, i6, .str, i6, i6]), (.sl 105 [.str, i6])]), (false, [.str])], [(false, [i6])], [], none⟩
noncomputable def c52 : Code := Try.f52.body.getD .skip
theorem b52 : Try.f52.body = some c52 := body_some (by kernel_rfl)
theorem n52 : (Try.f52.name == "runtime.NumGoroutine") = false := by kernel_rfl
def sg52 : List (FuncId × Sig) := [(63, S63)]
def lt52 : List (Nat × LoopSig) := []
theorem k52 : (Code.loops c52).length = 0 := by kernel_rfl
def vt52 : VT :=
  (.need (.t true) (.pre 63 (.cons (.var 2) (.cons (.clo 64 [(.pt [.str])] (.cons (.pk (.cons (.var 5) .nil)) .nil)) .nil)))
  (.lt (.app 63 (.cons (.var 2) (.cons (.clo 64 [(.pt [.str])] (.cons (.pk (.cons (.var 5) .nil)) .nil)) .nil)) 0) 1
  (.ret (.cons (.var 6) .nil))))
theorem e52 : (fnVT Try.prog (sgOf sg52) (ltOf lt52) S52 Try.f52 c52).slim (S52.ps.map fun p => p.2.length).sum [] = vt52 := by kernel_rfl
def S53 : Sig := ⟨[(false, [.str])], [(false, [i6])], [], none⟩
noncomputable def c53 : Code := Try.f53.body.getD .skip
theorem b53 : Try.f53.body = some c53 := body_some (by kernel_rfl)
theorem n53 : (Try.f53.name == "runtime.NumGoroutine") = false := by kernel_rfl
def sg53 : List (FuncId × Sig) := []
def L53_0 : LoopSig := ⟨15300, [],
   ⟨[.any, .any, (.c (.x i6 (.var 0))), .any, .any, .any, .any, .any, .any, (.c (.x (.sl 5 [(.int .u8)]) (.var 1))), (.c (.x i6 (.var 2))), (.c (.x i6 (.var 3))), .any, .any, .any, .any, .any, .any, .any, .any, .any, .any],
    []⟩,
   4, [0, 3], [12, 13, 14, 4, 15, 16, 17, 18, 19, 20, 2, 21, 11], [.ret, (.exit 0)], []⟩
def lt53 : List (Nat × LoopSig) := [(4, L53_0)]
theorem k53 : (Code.loops c53).length = 1 := by kernel_rfl
noncomputable def lb53_0 : Code := (Code.loops c53).getD 0 .skip
def rt53_0 : VT :=
  (.ite (.bin .lt (.var 3) (.var 2))
   (.need (.t true) (.c (.bin .le (.n 0) (.var 3)))
   (.need (.t true) (.c (.bin .lt (.var 3) (.un .len (.var 1))))
   (.ite (.ite (.bin .lt (.sel 0 (.var 1) (.var 3)) (.n 32)) (.t true) (.bin .lt (.n 126) (.sel 0 (.var 1) (.var 3))))
    (.ret (.cons (.n 0) (.cons (.n 7) (.cons (.var 3) .nil))))
    (.ret (.cons (.n (-1)) (.cons (.var 0) (.cons (.bin (.add .i64) (.var 3) (.n 1)) .nil)))))))
   (.ret (.cons (.n 1) (.cons (.var 0) (.cons (.var 3) .nil)))))
theorem le53_0 : (loopVT Try.prog (sgOf sg53) (ltOf lt53) L53_0 lb53_0).slim L53_0.nv [] = rt53_0 := by kernel_rfl
theorem lf53_0 : (firstRegion lb53_0).bind (ltOf lt53) = some L53_0 := by kernel_rfl
theorem lk53_0 : (Code.loops lb53_0).length = 0 := by kernel_rfl
def vt53 : VT :=
  (.ite (.bin .lt (.n 32) (.un .slen (.var 0)))
   (.ret (.cons (.n 2) .nil))
   (.need (.t true) (.pre 15300 (.cons (.n 0) (.cons (.un .bytes (.var 0)) (.cons (.un .len (.un .bytes (.var 0))) (.cons (.n 0) .nil)))))
   (.lt (.app 15300 (.cons (.n 0) (.cons (.un .bytes (.var 0)) (.cons (.un .len (.un .bytes (.var 0))) (.cons (.n 0) .nil)))) 0) 3
   (.ite (.bin .eq (.var 1) (.n 0))
    (.ret (.cons (.var 2) .nil))
    (.ret (.cons (.n 0) .nil))))))
theorem e53 : (fnVT Try.prog (sgOf sg53) (ltOf lt53) S53 Try.f53 c53).slim (S53.ps.map fun p => p.2.length).sum [] = vt53 := by kernel_rfl
def S54 : Sig := ⟨[(false, [i6])], [(false, [.bool])], [], none⟩
noncomputable def c54 : Code := Try.f54.body.getD .skip
theorem b54 : Try.f54.body = some c54 := body_some (by kernel_rfl)
theorem n54 : (Try.f54.name == "runtime.NumGoroutine") = false := by kernel_rfl
def sg54 : List (FuncId × Sig) := []
def lt54 : List (Nat × LoopSig) := []
theorem k54 : (Code.loops c54).length = 0 := by kernel_rfl
def vt54 : VT :=
  (.ret (.cons (.ite (.bin .le (.n 1) (.var 0)) (.bin .le (.var 0) (.n 1048576)) (.t false)) .nil))
theorem e54 : (fnVT Try.prog (sgOf sg54) (ltOf lt54) S54 Try.f54 c54).slim (S54.ps.map fun p => p.2.length).sum [] = vt54 := by kernel_rfl
def T54 : FuncId → List D → List D := tabOf []
def fn54 (ρ : List D) : List D := vt54.val T54 ρ
theorem m54 : Meets Try.prog 54 S54 (fun _ => True) fn54 := meets_easy (sgl := sg54) (Φ := T54) mixed ((fun _ h => nomatch h)) Try.func54 b54 n54 k54 e54 (by kernel_rfl)
def S66 : Sig := ⟨[(true, [.str, i6]), (false, [(.pt [.str, i6])])], [(false, [.bool])], [], none⟩
noncomputable def c66 : Code := Try.f66.body.getD .skip
theorem b66 : Try.f66.body = some c66 := body_some (by kernel_rfl)
theorem n66 : (Try.f66.name == "runtime.NumGoroutine") = false := by kernel_rfl
def sg66 : List (FuncId × Sig) := []
def lt66 : List (Nat × LoopSig) := []
theorem k66 : (Code.loops c66).length = 0 := by kernel_rfl
def vt66 : VT :=
  (.ret (.cons (.bin .seq (.var 0) (.psel 0 (.var 2))) .nil))
theorem e66 : (fnVT Try.prog (sgOf sg66) (ltOf lt66) S66 Try.f66 c66).slim (S66.ps.map fun p => p.2.length).sum [] = vt66 := by kernel_rfl
def T66 : FuncId → List D → List D := tabOf []
def fn66 (ρ : List D) : List D := vt66.val T66 ρ
theorem m66 : Meets Try.prog 66 S66 (fun _ => True) fn66 := meets_easy (sgl := sg66) (Φ := T66) mixed ((fun _ h => nomatch h)) Try.func66 b66 n66 k66 e66 (by kernel_rfl)
def S71 : Sig := ⟨[(false, [(.sl 116 [.str, i6])]), (false, [.clo])], [(false, [i6])], [], none⟩
noncomputable def c71 : Code := Try.f71.body.getD .skip
theorem b71 : Try.f71.body = some c71 := body_some (by kernel_rfl)
theorem n71 : (Try.f71.name == "runtime.NumGoroutine") = false := by kernel_rfl
def sg71 : List (FuncId × Sig) := [(20117, S20117)]
def L71_0 : LoopSig := ⟨17100, [],
   ⟨[(.c (.x (.sl 116 [.str, i6]) (.var 0))), (.c (.x .clo (.var 1))), .any, .any, (.c (.x i6 (.var 2))), .any, .any, (.c (.x i6 (.var 3))), (.c (.x i6 (.var 4))), .any, .any, .any, .any, .any, .any, .any, .any, .any, .any],
    []⟩,
   5, [2, 4], [9, 10, 5, 11, 12, 13, 14, 15, 16, 17, 4, 18, 8], [.ret, (.exit 0)], []⟩
def lt71 : List (Nat × LoopSig) := [(2, L71_0)]
theorem k71 : (Code.loops c71).length = 1 := by kernel_rfl
noncomputable def lb71_0 : Code := (Code.loops c71).getD 0 .skip
def rt71_0 : VT :=
  (.ite (.bin .lt (.var 4) (.var 3))
   (.need (.t true) (.c (.bin .le (.n 0) (.var 4)))
   (.need (.t true) (.c (.bin .lt (.var 4) (.un .len (.var 0))))
   (.need (.t true) (.pre 20117 (.cons (.var 1) (.cons (.sel 0 (.var 0) (.var 4)) (.cons (.sel 1 (.var 0) (.var 4)) .nil))))
   (.lt (.app 20117 (.cons (.var 1) (.cons (.sel 0 (.var 0) (.var 4)) (.cons (.sel 1 (.var 0) (.var 4)) .nil))) 0) 1
   (.ite (.var 5)
    (.ret (.cons (.n 0) (.cons (.var 4) (.cons (.var 4) .nil))))
    (.ret (.cons (.n (-1)) (.cons (.var 2) (.cons (.bin (.add .i64) (.var 4) (.n 1)) .nil)))))))))
   (.ret (.cons (.n 1) (.cons (.var 2) (.cons (.var 4) .nil)))))
theorem le71_0 : (loopVT Try.prog (sgOf sg71) (ltOf lt71) L71_0 lb71_0).slim L71_0.nv [] = rt71_0 := by kernel_rfl
theorem lf71_0 : (firstRegion lb71_0).bind (ltOf lt71) = some L71_0 := by kernel_rfl
theorem lk71_0 : (Code.loops lb71_0).length = 0 := by kernel_rfl
def vt71 : VT :=
  (.need (.t true) (.pre 17100 (.cons (.var 0) (.cons (.var 1) (.cons (.n 0) (.cons (.un .len (.var 0)) (.cons (.n 0) .nil))))))
  (.lt (.app 17100 (.cons (.var 0) (.cons (.var 1) (.cons (.n 0) (.cons (.un .len (.var 0)) (.cons (.n 0) .nil))))) 0) 3
  (.ite (.bin .eq (.var 2) (.n 0))
   (.ret (.cons (.var 3) .nil))
   (.ret (.cons (.n (-1)) .nil)))))
theorem e71 : (fnVT Try.prog (sgOf sg71) (ltOf lt71) S71 Try.f71 c71).slim (S71.ps.map fun p => p.2.length).sum [] = vt71 := by kernel_rfl
def S65 : Sig := ⟨[(false, [(.sl 116 [.str, i6])]), (false, [.clo])], [(false, [.bool])], [], none⟩
noncomputable def c65 : Code := Try.f65.body.getD .skip
theorem b65 : Try.f65.body = some c65 := body_some (by kernel_rfl)
theorem n65 : (Try.f65.name == "runtime.NumGoroutine") = false := by kernel_rfl
def sg65 : List (FuncId × Sig) := [(71, S71)]
def lt65 : List (Nat × LoopSig) := []
theorem k65 : (Code.loops c65).length = 0 := by kernel_rfl
def vt65 : VT :=
  (.need (.t true) (.pre 71 (.cons (.var 0) (.cons (.var 1) .nil)))
  (.lt (.app 71 (.cons (.var 0) (.cons (.var 1) .nil)) 0) 1
  (.ret (.cons (.bin .le (.n 0) (.var 2)) .nil))))
theorem e65 : (fnVT Try.prog (sgOf sg65) (ltOf lt65) S65 Try.f65 c65).slim (S65.ps.map fun p => p.2.length).sum [] = vt65 := by kernel_rfl
def S55 : Sig := ⟨[(false, [(.sl 116 [.str, i6])])], [(false, [i6])], [], none⟩
noncomputable def c55 : Code := Try.f55.body.getD .skip
theorem b55 : Try.f55.body = some c55 := body_some (by kernel_rfl)
theorem n55 : (Try.f55.name == "runtime.NumGoroutine") = false := by kernel_rfl
def sg55 : List (FuncId × Sig) := [(37, S37), (65, S65)]
def L55_0 : LoopSig := ⟨15500, [],
   ⟨[(.c (.x (.sl 116 [.str, i6]) (.var 0))), .any, (.c (.x i6 (.var 1))), .any, .any, .any, .any, .any, (.c (.x (.sl 116 [.str, i6]) (.var 2))), (.c (.x i6 (.var 3))), (.c (.x i6 (.var 4))), .any, .any, .any, .any, .any, .any, .any, .any, .any, .any, .any, .any, .any, .any, .any, .any, .any, .any, .any, .any, .any, .any, .any, .any, .any],
    []⟩,
   5, [1, 4], [11, 12, 13, 14, 4, 3, 16, 17, 18, 19, 15, 2, 21, 22, 23, 24, 25, 20, 27, 28, 29, 30, 31, 32, 33, 34, 26, 35, 10], [.ret, (.exit 0)], []⟩
def lt55 : List (Nat × LoopSig) := [(4, L55_0)]
theorem k55 : (Code.loops c55).length = 1 := by kernel_rfl
noncomputable def lb55_0 : Code := (Code.loops c55).getD 0 .skip
def rt55_0 : VT :=
  (.ite (.bin .lt (.var 4) (.var 3))
   (.need (.t true) (.c (.bin .le (.n 0) (.var 4)))
   (.need (.t true) (.c (.bin .lt (.var 4) (.un .len (.var 2))))
   (.need (.t true) (.pre 37 (.cons (.sel 0 (.var 2) (.var 4)) .nil))
   (.lt (.app 37 (.cons (.sel 0 (.var 2) (.var 4)) .nil) 0) 1
   (.ite (.un .not (.var 5))
    (.ret (.cons (.n 0) (.cons (.n 5) (.cons (.var 4) .nil))))
    (.need (.t true) (.c (.bin .le (.var 4) (.un .len (.var 0))))
    (.need (.t true) (.pre 65 (.cons (.sub (.var 0) (.n 0) (.var 4)) (.cons (.clo 66 [(.pt [.str, i6])] (.cons (.pk (.cons (.sel 0 (.var 2) (.var 4)) (.cons (.sel 1 (.var 2) (.var 4)) .nil))) .nil)) .nil)))
    (.lt (.app 65 (.cons (.sub (.var 0) (.n 0) (.var 4)) (.cons (.clo 66 [(.pt [.str, i6])] (.cons (.pk (.cons (.sel 0 (.var 2) (.var 4)) (.cons (.sel 1 (.var 2) (.var 4)) .nil))) .nil)) .nil)) 0) 1
    (.ite (.var 6)
     (.ret (.cons (.n 0) (.cons (.n 6) (.cons (.var 4) .nil))))
     (.ite (.ite (.bin .lt (.sel 1 (.var 2) (.var 4)) (.n 0)) (.t true) (.bin .lt (.n 3) (.sel 1 (.var 2) (.var 4))))
      (.ret (.cons (.n 0) (.cons (.n 7) (.cons (.var 4) .nil))))
      (.ret (.cons (.n (-1)) (.cons (.var 1) (.cons (.bin (.add .i64) (.var 4) (.n 1)) .nil))))))))))))))
   (.ret (.cons (.n 1) (.cons (.var 1) (.cons (.var 4) .nil)))))
theorem le55_0 : (loopVT Try.prog (sgOf sg55) (ltOf lt55) L55_0 lb55_0).slim L55_0.nv [] = rt55_0 := by kernel_rfl
theorem lf55_0 : (firstRegion lb55_0).bind (ltOf lt55) = some L55_0 := by kernel_rfl
theorem lk55_0 : (Code.loops lb55_0).length = 0 := by kernel_rfl
def vt55 : VT :=
  (.ite (.bin .lt (.n 8) (.un .len (.var 0)))
   (.ret (.cons (.n 2) .nil))
   (.need (.t true) (.pre 15500 (.cons (.var 0) (.cons (.n 0) (.cons (.var 0) (.cons (.un .len (.var 0)) (.cons (.n 0) .nil))))))
   (.lt (.app 15500 (.cons (.var 0) (.cons (.n 0) (.cons (.var 0) (.cons (.un .len (.var 0)) (.cons (.n 0) .nil))))) 0) 3
   (.ite (.bin .eq (.var 1) (.n 0))
    (.ret (.cons (.var 2) .nil))
    (.ret (.cons (.n 0) .nil))))))
theorem e55 : (fnVT Try.prog (sgOf sg55) (ltOf lt55) S55 Try.f55 c55).slim (S55.ps.map fun p => p.2.length).sum [] = vt55 := by kernel_rfl
def S38 : Sig := ⟨[(true, [.str, .bool, (.sl 43 [.str, .str, i6, i6, i6, (.sl 116 [.str, i6])]), (.sl 73 [i6, i6, i6, i6, .str, i6, i6]), (.sl 105 [.str, i6])]), (false, [i6])], [(false, [i6])], [], none⟩
noncomputable def c38 : Code := Try.f38.body.getD .skip
theorem b38 : Try.f38.body = some c38 := body_some (by kernel_rfl)
theorem n38 : (Try.f38.name == "runtime.NumGoroutine") = false := by kernel_rfl
def sg38 : List (FuncId × Sig) := [(37, S37), (52, S52), (53, S53), (54, S54), (55, S55)]
def lt38 : List (Nat × LoopSig) := []
theorem k38 : (Code.loops c38).length = 0 := by kernel_rfl
def vt38 : VT :=
  (.need (.t true) (.c (.bin .le (.n 0) (.var 5)))
  (.need (.t true) (.c (.bin .lt (.var 5) (.un .len (.var 2))))
  (.need (.t true) (.pre 37 (.cons (.sel 0 (.var 2) (.var 5)) .nil))
  (.lt (.app 37 (.cons (.sel 0 (.var 2) (.var 5)) .nil) 0) 1
  (.ite (.un .not (.var 6))
   (.ret (.cons (.n 5) .nil))
   (.need (.t true) (.pre 52 (.cons (.var 0) (.cons (.var 1) (.cons (.var 2) (.cons (.var 3) (.cons (.var 4) (.cons (.sel 0 (.var 2) (.var 5)) .nil)))))))
   (.lt (.app 52 (.cons (.var 0) (.cons (.var 1) (.cons (.var 2) (.cons (.var 3) (.cons (.var 4) (.cons (.sel 0 (.var 2) (.var 5)) .nil)))))) 0) 1
   (.ite (.bin .lt (.var 7) (.var 5))
    (.ret (.cons (.n 6) .nil))
    (.need (.t true) (.pre 53 (.cons (.sel 1 (.var 2) (.var 5)) .nil))
    (.lt (.app 53 (.cons (.sel 1 (.var 2) (.var 5)) .nil) 0) 1
    (.ite (.un .not (.bin .eq (.var 8) (.n 0)))
     (.ret (.cons (.var 8) .nil))
     (.need (.t true) (.pre 54 (.cons (.sel 2 (.var 2) (.var 5)) .nil))
     (.lt (.app 54 (.cons (.sel 2 (.var 2) (.var 5)) .nil) 0) 1
     (.need (.var 9) (.pre 54 (.cons (.sel 3 (.var 2) (.var 5)) .nil))
     (.lt (.app 54 (.cons (.sel 3 (.var 2) (.var 5)) .nil) 0) 1
     (.ite (.ite (.ite (.ite (.un .not (.var 9)) (.t true) (.un .not (.var 10))) (.t true) (.bin .lt (.sel 4 (.var 2) (.var 5)) (.n (-1)))) (.t true) (.bin .le (.un .len (.var 4)) (.sel 4 (.var 2) (.var 5))))
      (.ret (.cons (.n 3) .nil))
      (.need (.t true) (.pre 55 (.cons (.sel 5 (.var 2) (.var 5)) .nil))
      (.lt (.app 55 (.cons (.sel 5 (.var 2) (.var 5)) .nil) 0) 1
      (.ret (.cons (.var 11) .nil))))))))))))))))))))
theorem e38 : (fnVT Try.prog (sgOf sg38) (ltOf lt38) S38 Try.f38 c38).slim (S38.ps.map fun p => p.2.length).sum [] = vt38 := by kernel_rfl
def S57 : Sig := ⟨[(true, [.str, i6]), (false, [(.pt [.str, i6])])], [(false, [.bool])], [], none⟩
noncomputable def c57 : Code := Try.f57.body.getD .skip
theorem b57 : Try.f57.body = some c57 := body_some (by kernel_rfl)
theorem n57 : (Try.f57.name == "runtime.NumGoroutine") = false := by kernel_rfl
def sg57 : List (FuncId × Sig) := []
def lt57 : List (Nat × LoopSig) := []
theorem k57 : (Code.loops c57).length = 0 := by kernel_rfl
def vt57 : VT :=
  (.ret (.cons (.bin .seq (.var 0) (.psel 0 (.var 2))) .nil))
theorem e57 : (fnVT Try.prog (sgOf sg57) (ltOf lt57) S57 Try.f57 c57).slim (S57.ps.map fun p => p.2.length).sum [] = vt57 := by kernel_rfl
def T57 : FuncId → List D → List D := tabOf []
def fn57 (ρ : List D) : List D := vt57.val T57 ρ
theorem m57 : Meets Try.prog 57 S57 (fun _ => True) fn57 := meets_easy (sgl := sg57) (Φ := T57) mixed ((fun _ h => nomatch h)) Try.func57 b57 n57 k57 e57 (by kernel_rfl)
def S67 : Sig := ⟨[(false, [(.sl 105 [.str, i6])]), (false, [.clo])], [(false, [i6])], [], none⟩
noncomputable def c67 : Code := Try.f67.body.getD .skip
theorem b67 : Try.f67.body = some c67 := body_some (by kernel_rfl)
theorem n67 : (Try.f67.name == "runtime.NumGoroutine") = false := by kernel_rfl
def sg67 : List (FuncId × Sig) := [(20106, S20106)]
def L67_0 : LoopSig := ⟨16700, [],
   ⟨[(.c (.x (.sl 105 [.str, i6]) (.var 0))), (.c (.x .clo (.var 1))), .any, .any, (.c (.x i6 (.var 2))), .any, .any, (.c (.x i6 (.var 3))), (.c (.x i6 (.var 4))), .any, .any, .any, .any, .any, .any, .any, .any, .any, .any],
    []⟩,
   5, [2, 4], [9, 10, 5, 11, 12, 13, 14, 15, 16, 17, 4, 18, 8], [.ret, (.exit 0)], []⟩
def lt67 : List (Nat × LoopSig) := [(2, L67_0)]
theorem k67 : (Code.loops c67).length = 1 := by kernel_rfl
noncomputable def lb67_0 : Code := (Code.loops c67).getD 0 .skip
def rt67_0 : VT :=
  (.ite (.bin .lt (.var 4) (.var 3))
   (.need (.t true) (.c (.bin .le (.n 0) (.var 4)))
   (.need (.t true) (.c (.bin .lt (.var 4) (.un .len (.var 0))))
   (.need (.t true) (.pre 20106 (.cons (.var 1) (.cons (.sel 0 (.var 0) (.var 4)) (.cons (.sel 1 (.var 0) (.var 4)) .nil))))
   (.lt (.app 20106 (.cons (.var 1) (.cons (.sel 0 (.var 0) (.var 4)) (.cons (.sel 1 (.var 0) (.var 4)) .nil))) 0) 1
   (.ite (.var 5)
    (.ret (.cons (.n 0) (.cons (.var 4) (.cons (.var 4) .nil))))
    (.ret (.cons (.n (-1)) (.cons (.var 2) (.cons (.bin (.add .i64) (.var 4) (.n 1)) .nil)))))))))
   (.ret (.cons (.n 1) (.cons (.var 2) (.cons (.var 4) .nil)))))
theorem le67_0 : (loopVT Try.prog (sgOf sg67) (ltOf lt67) L67_0 lb67_0).slim L67_0.nv [] = rt67_0 := by kernel_rfl
theorem lf67_0 : (firstRegion lb67_0).bind (ltOf lt67) = some L67_0 := by kernel_rfl
theorem lk67_0 : (Code.loops lb67_0).length = 0 := by kernel_rfl
def vt67 : VT :=
  (.need (.t true) (.pre 16700 (.cons (.var 0) (.cons (.var 1) (.cons (.n 0) (.cons (.un .len (.var 0)) (.cons (.n 0) .nil))))))
  (.lt (.app 16700 (.cons (.var 0) (.cons (.var 1) (.cons (.n 0) (.cons (.un .len (.var 0)) (.cons (.n 0) .nil))))) 0) 3
  (.ite (.bin .eq (.var 2) (.n 0))
   (.ret (.cons (.var 3) .nil))
   (.ret (.cons (.n (-1)) .nil)))))
theorem e67 : (fnVT Try.prog (sgOf sg67) (ltOf lt67) S67 Try.f67 c67).slim (S67.ps.map fun p => p.2.length).sum [] = vt67 := by kernel_rfl
def S56 : Sig := ⟨[(false, [(.sl 105 [.str, i6])]), (false, [.clo])], [(false, [.bool])], [], none⟩
noncomputable def c56 : Code := Try.f56.body.getD .skip
theorem b56 : Try.f56.body = some c56 := body_some (by kernel_rfl)
theorem n56 : (Try.f56.name == "runtime.NumGoroutine") = false := by kernel_rfl
def sg56 : List (FuncId × Sig) := [(67, S67)]
def lt56 : List (Nat × LoopSig) := []
theorem k56 : (Code.loops c56).length = 0 := by kernel_rfl
def vt56 : VT :=
  (.need (.t true) (.pre 67 (.cons (.var 0) (.cons (.var 1) .nil)))
  (.lt (.app 67 (.cons (.var 0) (.cons (.var 1) .nil)) 0) 1
  (.ret (.cons (.bin .le (.n 0) (.var 2)) .nil))))
theorem e56 : (fnVT Try.prog (sgOf sg56) (ltOf lt56) S56 Try.f56 c56).slim (S56.ps.map fun p => p.2.length).sum [] = vt56 := by kernel_rfl
def S68 : Sig := ⟨[(true, [.str, .bool, (.sl 43 [.str, .str, i6, i6, i6, (.sl 116 [.str, i6])]), (.sl 73 [i6, i6, i6, i6, .str, i6, i6]), (.sl 105 [.str, i6])]), (false, [i6])], [(false, [(.sl 3 [i6])])], [], none⟩
noncomputable def c68 : Code := Try.f68.body.getD .skip
theorem b68 : Try.f68.body = some c68 := body_some (by kernel_rfl)
theorem n68 : (Try.f68.name == "runtime.NumGoroutine") = false := by kernel_rfl
def sg68 : List (FuncId × Sig) := []
def L68_0 : LoopSig := ⟨16800, [(5, none, 3)],
   ⟨[.any, (.c (.x i6 (.var 0))), (.c (.ptr 0 0)), .any, .any, (.c (.row 1 1)), .any, .any, .any, .any, .any, .any, .any, .any, .any, .any, .any, .any, .any],
    [some ⟨(.t true), (.box 48 [(.x .str (.var 1)), (.x .bool (.var 2)), (.x (.sl 43 [.str, .str, i6, i6, i6, (.sl 116 [.str, i6])]) (.var 3)), (.x (.sl 73 [i6, i6, i6, i6, .str, i6, i6]) (.var 4)), (.x (.sl 105 [.str, i6]) (.var 5))] false)⟩, some ⟨(.t true), (.row 3 [i6] (.var 6) 1 false)⟩]⟩,
   7, [0, 6], [6, 7, 8, 9, 10, 11, 5, 12, 13, 14, 15, 16, 17, 1], [(.exit 0)], [6]⟩
def lt68 : List (Nat × LoopSig) := [(2, L68_0)]
theorem k68 : (Code.loops c68).length = 1 := by kernel_rfl
noncomputable def lb68_0 : Code := (Code.loops c68).getD 0 .skip
def rt68_0 : VT :=
  (.ite (.bin .le (.n 0) (.var 0))
   (.need (.t true) (.c (.bin .le (.un .len (.bin .cat (.var 6) (.lcons (.cons (.var 0) .nil) .lnil))) (.n 17592186044416)))
   (.need (.t true) (.c (.bin .lt (.var 0) (.un .len (.var 5))))
   (.ret (.cons (.n (-1)) (.cons (.sel 1 (.var 5) (.var 0)) (.cons (.bin .cat (.var 6) (.lcons (.cons (.var 0) .nil) .lnil)) .nil))))))
   (.ret (.cons (.n 0) (.cons (.var 0) (.cons (.var 6) .nil)))))
theorem le68_0 : (loopVT Try.prog (sgOf sg68) (ltOf lt68) L68_0 lb68_0).slim L68_0.nv [] = rt68_0 := by kernel_rfl
theorem lf68_0 : (firstRegion lb68_0).bind (ltOf lt68) = some L68_0 := by kernel_rfl
theorem lk68_0 : (Code.loops lb68_0).length = 0 := by kernel_rfl
def vt68 : VT :=
  (.need (.t true) (.pre 16800 (.cons (.var 5) (.cons (.var 0) (.cons (.var 1) (.cons (.var 2) (.cons (.var 3) (.cons (.var 4) (.cons .lnil .nil))))))))
  (.lt (.app 16800 (.cons (.var 5) (.cons (.var 0) (.cons (.var 1) (.cons (.var 2) (.cons (.var 3) (.cons (.var 4) (.cons .lnil .nil))))))) 0) 3
  (.ret (.cons (.var 8) .nil))))
theorem e68 : (fnVT Try.prog (sgOf sg68) (ltOf lt68) S68 Try.f68 c68).slim (S68.ps.map fun p => p.2.length).sum [] = vt68 := by kernel_rfl
def S58 : Sig := ⟨[(true, [.str, .bool, (.sl 43 [.str, .str, i6, i6, i6, (.sl 116 [.str, i6])]), (.sl 73 [i6, i6, i6, i6, .str, i6, i6]), (.sl 105 [.str, i6])]), (false, [i6])], [(false, [i6])], [], none⟩
noncomputable def c58 : Code := Try.f58.body.getD .skip
theorem b58 : Try.f58.body = some c58 := body_some (by kernel_rfl)
theorem n58 : (Try.f58.name == "runtime.NumGoroutine") = false := by kernel_rfl
def sg58 : List (FuncId × Sig) := [(68, S68)]
def lt58 : List (Nat × LoopSig) := []
theorem k58 : (Code.loops c58).length = 0 := by kernel_rfl
def vt58 : VT :=
  (.need (.t true) (.pre 68 (.cons (.var 0) (.cons (.var 1) (.cons (.var 2) (.cons (.var 3) (.cons (.var 4) (.cons (.var 5) .nil)))))))
  (.lt (.app 68 (.cons (.var 0) (.cons (.var 1) (.cons (.var 2) (.cons (.var 3) (.cons (.var 4) (.cons (.var 5) .nil)))))) 0) 1
  (.ret (.cons (.un .len (.var 6)) .nil))))
theorem e58 : (fnVT Try.prog (sgOf sg58) (ltOf lt58) S58 Try.f58 c58).slim (S58.ps.map fun p => p.2.length).sum [] = vt58 := by kernel_rfl
def S39 : Sig := ⟨[(true, [.str, .bool, (.sl 43 [.str, .str, i6, i6, i6, (.sl 116 [.str, i6])]), (.sl 73 [i6, i6, i6, i6, .str, i6, i6]), (.sl 105 [.str, i6])]), (false, [i6])], [(false, [i6])], [], none⟩
noncomputable def c39 : Code := Try.f39.body.getD .skip
theorem b39 : Try.f39.body = some c39 := body_some (by kernel_rfl)
theorem n39 : (Try.f39.name == "runtime.NumGoroutine") = false := by kernel_rfl
def sg39 : List (FuncId × Sig) := [(37, S37), (52, S52), (56, S56), (58, S58)]
def lt39 : List (Nat × LoopSig) := []
theorem k39 : (Code.loops c39).length = 0 := by kernel_rfl
def vt39 : VT :=
  (.need (.t true) (.c (.bin .le (.n 0) (.var 5)))
  (.need (.t true) (.c (.bin .lt (.var 5) (.un .len (.var 4))))
  (.need (.t true) (.pre 37 (.cons (.sel 0 (.var 4) (.var 5)) .nil))
  (.lt (.app 37 (.cons (.sel 0 (.var 4) (.var 5)) .nil) 0) 1
  (.ite (.un .not (.var 6))
   (.ret (.cons (.n 5) .nil))
   (.need (.t true) (.pre 52 (.cons (.var 0) (.cons (.var 1) (.cons (.var 2) (.cons (.var 3) (.cons (.var 4) (.cons (.sel 0 (.var 4) (.var 5)) .nil)))))))
   (.lt (.app 52 (.cons (.var 0) (.cons (.var 1) (.cons (.var 2) (.cons (.var 3) (.cons (.var 4) (.cons (.sel 0 (.var 4) (.var 5)) .nil)))))) 0) 1
   (.need (.un .not (.bin .le (.n 0) (.var 7))) (.c (.bin .le (.var 5) (.un .len (.var 4))))
   (.need (.un .not (.bin .le (.n 0) (.var 7))) (.pre 56 (.cons (.sub (.var 4) (.n 0) (.var 5)) (.cons (.clo 57 [(.pt [.str, i6])] (.cons (.pk (.cons (.sel 0 (.var 4) (.var 5)) (.cons (.sel 1 (.var 4) (.var 5)) .nil))) .nil)) .nil)))
   (.lt (.app 56 (.cons (.sub (.var 4) (.n 0) (.var 5)) (.cons (.clo 57 [(.pt [.str, i6])] (.cons (.pk (.cons (.sel 0 (.var 4) (.var 5)) (.cons (.sel 1 (.var 4) (.var 5)) .nil))) .nil)) .nil)) 0) 1
   (.ite (.ite (.bin .le (.n 0) (.var 7)) (.t true) (.var 8))
    (.ret (.cons (.n 6) .nil))
    (.ite (.ite (.bin .lt (.sel 1 (.var 4) (.var 5)) (.n (-1))) (.t true) (.bin .le (.var 5) (.sel 1 (.var 4) (.var 5))))
     (.ret (.cons (.n 3) .nil))
     (.need (.t true) (.pre 58 (.cons (.var 0) (.cons (.var 1) (.cons (.var 2) (.cons (.var 3) (.cons (.var 4) (.cons (.var 5) .nil)))))))
     (.lt (.app 58 (.cons (.var 0) (.cons (.var 1) (.cons (.var 2) (.cons (.var 3) (.cons (.var 4) (.cons (.var 5) .nil)))))) 0) 1
     (.ite (.bin .lt (.n 6) (.var 9))
      (.ret (.cons (.n 2) .nil))
      (.ret (.cons (.n 0) .nil)))))))))))))))))
theorem e39 : (fnVT Try.prog (sgOf sg39) (ltOf lt39) S39 Try.f39 c39).slim (S39.ps.map fun p => p.2.length).sum [] = vt39 := by kernel_rfl
def S40 : Sig := ⟨[(true, [.str, .bool, (.sl 43 [.str, .str, i6, i6, i6, (.sl 116 [.str, i6])]), (.sl 73 [i6, i6, i6, i6, .str, i6, i6]), (.sl 105 [.str, i6])]), (true, [i6, i6, i6, i6, .str, i6, i6])], [(false, [i6])], [], none⟩
noncomputable def c40 : Code := Try.f40.body.getD .skip
theorem b40 : Try.f40.body = some c40 := body_some (by kernel_rfl)
theorem n40 : (Try.f40.name == "runtime.NumGoroutine") = false := by kernel_rfl
def sg40 : List (FuncId × Sig) := [(53, S53)]
def lt40 : List (Nat × LoopSig) := []
theorem k40 : (Code.loops c40).length = 0 := by kernel_rfl
def vt40 : VT :=
  (.need (.un .not (.ite (.ite (.bin .lt (.bin .min (.var 5) (.var 6)) (.n 0)) (.t true) (.bin .le (.un .len (.var 2)) (.bin .max (.var 5) (.var 6)))) (.t true) (.bin .lt (.bin .min (.var 7) (.var 8)) (.n (-1))))) (.c (.bin .le (.n 0) (.var 5)))
  (.need (.un .not (.ite (.ite (.bin .lt (.bin .min (.var 5) (.var 6)) (.n 0)) (.t true) (.bin .le (.un .len (.var 2)) (.bin .max (.var 5) (.var 6)))) (.t true) (.bin .lt (.bin .min (.var 7) (.var 8)) (.n (-1))))) (.c (.bin .lt (.var 5) (.un .len (.var 2))))
  (.need (.un .not (.ite (.ite (.ite (.bin .lt (.bin .min (.var 5) (.var 6)) (.n 0)) (.t true) (.bin .le (.un .len (.var 2)) (.bin .max (.var 5) (.var 6)))) (.t true) (.bin .lt (.bin .min (.var 7) (.var 8)) (.n (-1)))) (.t true) (.bin .le (.un .len (.sel 5 (.var 2) (.var 5))) (.var 7)))) (.c (.bin .le (.n 0) (.var 6)))
  (.need (.un .not (.ite (.ite (.ite (.bin .lt (.bin .min (.var 5) (.var 6)) (.n 0)) (.t true) (.bin .le (.un .len (.var 2)) (.bin .max (.var 5) (.var 6)))) (.t true) (.bin .lt (.bin .min (.var 7) (.var 8)) (.n (-1)))) (.t true) (.bin .le (.un .len (.sel 5 (.var 2) (.var 5))) (.var 7)))) (.c (.bin .lt (.var 6) (.un .len (.var 2))))
  (.ite (.ite (.ite (.ite (.ite (.bin .lt (.bin .min (.var 5) (.var 6)) (.n 0)) (.t true) (.bin .le (.un .len (.var 2)) (.bin .max (.var 5) (.var 6)))) (.t true) (.bin .lt (.bin .min (.var 7) (.var 8)) (.n (-1)))) (.t true) (.bin .le (.un .len (.sel 5 (.var 2) (.var 5))) (.var 7))) (.t true) (.bin .le (.un .len (.sel 5 (.var 2) (.var 6))) (.var 8)))
   (.ret (.cons (.n 3) .nil))
   (.need (.t true) (.pre 53 (.cons (.var 9) .nil))
   (.lt (.app 53 (.cons (.var 9) .nil) 0) 1
   (.ite (.un .not (.bin .eq (.var 12) (.n 0)))
    (.ret (.cons (.var 12) .nil))
    (.ite (.ite (.ite (.ite (.bin .lt (.var 10) (.n 1)) (.t true) (.bin .lt (.n 1000) (.var 10))) (.t true) (.bin .lt (.var 11) (.n 1))) (.t true) (.bin .lt (.n 64) (.var 11)))
     (.ret (.cons (.n 7) .nil))
     (.ret (.cons (.n 0) .nil)))))))))))
theorem e40 : (fnVT Try.prog (sgOf sg40) (ltOf lt40) S40 Try.f40 c40).slim (S40.ps.map fun p => p.2.length).sum [] = vt40 := by kernel_rfl
def S24 : Sig := ⟨[(true, [.str, .bool, (.sl 43 [.str, .str, i6, i6, i6, (.sl 116 [.str, i6])]), (.sl 73 [i6, i6, i6, i6, .str, i6, i6]), (.sl 105 [.str, i6])])], [(false, [i6])], [], none⟩
noncomputable def c24 : Code := Try.f24.body.getD .skip
theorem b24 : Try.f24.body = some c24 := body_some (by kernel_rfl)
theorem n24 : (Try.f24.name == "runtime.NumGoroutine") = false := by kernel_rfl
def sg24 : List (FuncId × Sig) := [(37, S37), (38, S38), (39, S39), (40, S40)]
def L24_0 : LoopSig := ⟨12400, [],
   ⟨[.any, (.c (.ptr 0 0)), (.c (.x i6 (.var 0))), .any, .any, .any, .any, .any, .any, .any, .any, .any, .any, .any, .any, .any, .any, .any, .any, .any, .any, .any, .any, .any, .any, .any, .any, .any, .any, .any, .any, .any, (.c (.x i6 (.var 1))), (.c (.x i6 (.var 2))), .any, .any, .any, .any, .any, .any, .any, .any, .any, .any, .any, .any, .any, .any, .any, .any, .any, .any, .any, .any, .any, .any, .any, .any, .any, .any, .any, .any, .any, .any, .any, .any, .any, .any, .any, .any],
    [some ⟨(.t true), (.box 48 [(.x .str (.var 3)), (.x .bool (.var 4)), (.x (.sl 43 [.str, .str, i6, i6, i6, (.sl 116 [.str, i6])]) (.var 5)), (.x (.sl 73 [i6, i6, i6, i6, .str, i6, i6]) (.var 6)), (.x (.sl 105 [.str, i6]) (.var 7))] false)⟩]⟩,
   8, [0, 2], [34, 35, 3, 36, 37, 38, 4, 39, 40, 41, 2, 42, 33], [.ret, (.exit 0)], []⟩
def L24_1 : LoopSig := ⟨12401, [],
   ⟨[.any, (.c (.ptr 0 0)), (.c (.x i6 (.var 0))), .any, .any, .any, .any, .any, .any, .any, .any, .any, .any, .any, .any, .any, .any, .any, .any, .any, .any, .any, .any, .any, .any, .any, .any, .any, .any, .any, .any, .any, .any, .any, .any, .any, .any, .any, .any, .any, .any, .any, .any, .any, .any, (.c (.x i6 (.var 1))), (.c (.x i6 (.var 2))), .any, .any, .any, .any, .any, .any, .any, .any, .any, .any, .any, .any, .any, .any, .any, .any, .any, .any, .any, .any, .any, .any, .any],
    [some ⟨(.t true), (.box 48 [(.x .str (.var 3)), (.x .bool (.var 4)), (.x (.sl 43 [.str, .str, i6, i6, i6, (.sl 116 [.str, i6])]) (.var 5)), (.x (.sl 73 [i6, i6, i6, i6, .str, i6, i6]) (.var 6)), (.x (.sl 105 [.str, i6]) (.var 7))] false)⟩]⟩,
   8, [0, 2], [47, 48, 5, 49, 50, 51, 6, 52, 53, 54, 2, 55, 46], [.ret, (.exit 2)], []⟩
def L24_2 : LoopSig := ⟨12402, [],
   ⟨[.any, (.c (.ptr 0 0)), (.c (.x i6 (.var 0))), .any, .any, .any, .any, .any, .any, .any, .any, .any, .any, .any, .any, .any, .any, .any, .any, .any, .any, .any, .any, .any, .any, .any, .any, .any, .any, .any, .any, .any, .any, .any, .any, .any, .any, .any, .any, .any, .any, .any, .any, .any, .any, .any, .any, .any, .any, .any, .any, .any, .any, .any, .any, .any, .any, (.c (.x (.sl 73 [i6, i6, i6, i6, .str, i6, i6]) (.var 1))), (.c (.x i6 (.var 2))), (.c (.x i6 (.var 3))), .any, .any, .any, .any, .any, .any, .any, .any, .any, .any],
    [some ⟨(.t true), (.box 48 [(.x .str (.var 4)), (.x .bool (.var 5)), (.x (.sl 43 [.str, .str, i6, i6, i6, (.sl 116 [.str, i6])]) (.var 6)), (.x (.sl 73 [i6, i6, i6, i6, .str, i6, i6]) (.var 7)), (.x (.sl 105 [.str, i6]) (.var 8))] false)⟩]⟩,
   9, [0, 3], [60, 61, 62, 8, 63, 64, 65, 9, 66, 67, 68, 2, 69, 59], [.ret, (.exit 4)], []⟩
def lt24 : List (Nat × LoopSig) := [(6, L24_0), (13, L24_1), (20, L24_2)]
theorem k24 : (Code.loops c24).length = 3 := by kernel_rfl
noncomputable def lb24_0 : Code := (Code.loops c24).getD 0 .skip
noncomputable def lb24_1 : Code := (Code.loops c24).getD 1 .skip
noncomputable def lb24_2 : Code := (Code.loops c24).getD 2 .skip
def rt24_0 : VT :=
  (.ite (.bin .lt (.var 2) (.var 1))
   (.need (.t true) (.pre 38 (.cons (.var 3) (.cons (.var 4) (.cons (.var 5) (.cons (.var 6) (.cons (.var 7) (.cons (.var 2) .nil)))))))
   (.lt (.app 38 (.cons (.var 3) (.cons (.var 4) (.cons (.var 5) (.cons (.var 6) (.cons (.var 7) (.cons (.var 2) .nil)))))) 0) 1
   (.ite (.un .not (.bin .eq (.var 8) (.n 0)))
    (.ret (.cons (.n 0) (.cons (.var 8) (.cons (.var 2) .nil))))
    (.ret (.cons (.n (-1)) (.cons (.var 0) (.cons (.bin (.add .i64) (.var 2) (.n 1)) .nil)))))))
   (.ret (.cons (.n 1) (.cons (.var 0) (.cons (.var 2) .nil)))))
theorem le24_0 : (loopVT Try.prog (sgOf sg24) (ltOf lt24) L24_0 lb24_0).slim L24_0.nv [] = rt24_0 := by kernel_rfl
theorem lf24_0 : (firstRegion lb24_0).bind (ltOf lt24) = some L24_0 := by kernel_rfl
theorem lk24_0 : (Code.loops lb24_0).length = 0 := by kernel_rfl
def rt24_1 : VT :=
  (.ite (.bin .lt (.var 2) (.var 1))
   (.need (.t true) (.pre 39 (.cons (.var 3) (.cons (.var 4) (.cons (.var 5) (.cons (.var 6) (.cons (.var 7) (.cons (.var 2) .nil)))))))
   (.lt (.app 39 (.cons (.var 3) (.cons (.var 4) (.cons (.var 5) (.cons (.var 6) (.cons (.var 7) (.cons (.var 2) .nil)))))) 0) 1
   (.ite (.un .not (.bin .eq (.var 8) (.n 0)))
    (.ret (.cons (.n 0) (.cons (.var 8) (.cons (.var 2) .nil))))
    (.ret (.cons (.n (-1)) (.cons (.var 0) (.cons (.bin (.add .i64) (.var 2) (.n 1)) .nil)))))))
   (.ret (.cons (.n 1) (.cons (.var 0) (.cons (.var 2) .nil)))))
theorem le24_1 : (loopVT Try.prog (sgOf sg24) (ltOf lt24) L24_1 lb24_1).slim L24_1.nv [] = rt24_1 := by kernel_rfl
theorem lf24_1 : (firstRegion lb24_1).bind (ltOf lt24) = some L24_1 := by kernel_rfl
theorem lk24_1 : (Code.loops lb24_1).length = 0 := by kernel_rfl
def rt24_2 : VT :=
  (.ite (.bin .lt (.var 3) (.var 2))
   (.need (.t true) (.c (.bin .le (.n 0) (.var 3)))
   (.need (.t true) (.c (.bin .lt (.var 3) (.un .len (.var 1))))
   (.need (.t true) (.pre 40 (.cons (.var 4) (.cons (.var 5) (.cons (.var 6) (.cons (.var 7) (.cons (.var 8) (.cons (.sel 0 (.var 1) (.var 3)) (.cons (.sel 1 (.var 1) (.var 3)) (.cons (.sel 2 (.var 1) (.var 3)) (.cons (.sel 3 (.var 1) (.var 3)) (.cons (.sel 4 (.var 1) (.var 3)) (.cons (.sel 5 (.var 1) (.var 3)) (.cons (.sel 6 (.var 1) (.var 3)) .nil)))))))))))))
   (.lt (.app 40 (.cons (.var 4) (.cons (.var 5) (.cons (.var 6) (.cons (.var 7) (.cons (.var 8) (.cons (.sel 0 (.var 1) (.var 3)) (.cons (.sel 1 (.var 1) (.var 3)) (.cons (.sel 2 (.var 1) (.var 3)) (.cons (.sel 3 (.var 1) (.var 3)) (.cons (.sel 4 (.var 1) (.var 3)) (.cons (.sel 5 (.var 1) (.var 3)) (.cons (.sel 6 (.var 1) (.var 3)) .nil)))))))))))) 0) 1
   (.ite (.un .not (.bin .eq (.var 9) (.n 0)))
    (.ret (.cons (.n 0) (.cons (.var 9) (.cons (.var 3) .nil))))
    (.ret (.cons (.n (-1)) (.cons (.var 0) (.cons (.bin (.add .i64) (.var 3) (.n 1)) .nil)))))))))
   (.ret (.cons (.n 1) (.cons (.var 0) (.cons (.var 3) .nil)))))
theorem le24_2 : (loopVT Try.prog (sgOf sg24) (ltOf lt24) L24_2 lb24_2).slim L24_2.nv [] = rt24_2 := by kernel_rfl
theorem lf24_2 : (firstRegion lb24_2).bind (ltOf lt24) = some L24_2 := by kernel_rfl
theorem lk24_2 : (Code.loops lb24_2).length = 0 := by kernel_rfl
def vt24 : VT :=
  (.ite (.ite (.ite (.bin .lt (.n 64) (.un .len (.var 2))) (.t true) (.bin .lt (.n 256) (.un .len (.var 3)))) (.t true) (.bin .lt (.n 16) (.un .len (.var 4))))
   (.ret (.cons (.n 2) .nil))
   (.need (.t true) (.pre 37 (.cons (.var 0) .nil))
   (.lt (.app 37 (.cons (.var 0) .nil) 0) 1
   (.ite (.un .not (.var 5))
    (.ret (.cons (.n 5) .nil))
    (.need (.t true) (.pre 12400 (.cons (.n 0) (.cons (.un .len (.var 2)) (.cons (.n 0) (.cons (.var 0) (.cons (.var 1) (.cons (.var 2) (.cons (.var 3) (.cons (.var 4) .nil)))))))))
    (.lt (.app 12400 (.cons (.n 0) (.cons (.un .len (.var 2)) (.cons (.n 0) (.cons (.var 0) (.cons (.var 1) (.cons (.var 2) (.cons (.var 3) (.cons (.var 4) .nil)))))))) 0) 3
    (.ite (.bin .eq (.var 6) (.n 0))
     (.ret (.cons (.var 7) .nil))
     (.need (.t true) (.pre 12401 (.cons (.var 7) (.cons (.un .len (.var 4)) (.cons (.n 0) (.cons (.var 0) (.cons (.var 1) (.cons (.var 2) (.cons (.var 3) (.cons (.var 4) .nil)))))))))
     (.lt (.app 12401 (.cons (.var 7) (.cons (.un .len (.var 4)) (.cons (.n 0) (.cons (.var 0) (.cons (.var 1) (.cons (.var 2) (.cons (.var 3) (.cons (.var 4) .nil)))))))) 0) 3
     (.ite (.bin .eq (.var 9) (.n 0))
      (.ret (.cons (.var 10) .nil))
      (.need (.t true) (.pre 12402 (.cons (.var 10) (.cons (.var 3) (.cons (.un .len (.var 3)) (.cons (.n 0) (.cons (.var 0) (.cons (.var 1) (.cons (.var 2) (.cons (.var 3) (.cons (.var 4) .nil))))))))))
      (.lt (.app 12402 (.cons (.var 10) (.cons (.var 3) (.cons (.un .len (.var 3)) (.cons (.n 0) (.cons (.var 0) (.cons (.var 1) (.cons (.var 2) (.cons (.var 3) (.cons (.var 4) .nil))))))))) 0) 3
      (.ite (.bin .eq (.var 12) (.n 0))
       (.ret (.cons (.var 13) .nil))
       (.ret (.cons (.n 0) .nil)))))))))))))))
theorem e24 : (fnVT Try.prog (sgOf sg24) (ltOf lt24) S24 Try.f24 c24).slim (S24.ps.map fun p => p.2.length).sum [] = vt24 := by kernel_rfl
def S43 : Sig := ⟨[(true, [.str, .bool, (.sl 43 [.str, .str, i6, i6, i6, (.sl 116 [.str, i6])]), (.sl 73 [i6, i6, i6, i6, .str, i6, i6]), (.sl 105 [.str, i6])]), (false, [i6])], [(false, [i6])], [], none⟩
noncomputable def c43 : Code := Try.f43.body.getD .skip
theorem b43 : Try.f43.body = some c43 := body_some (by kernel_rfl)
theorem n43 : (Try.f43.name == "runtime.NumGoroutine") = false := by kernel_rfl
def sg43 : List (FuncId × Sig) := [(24, S24), (58, S58)]
def lt43 : List (Nat × LoopSig) := []
theorem k43 : (Code.loops c43).length = 0 := by kernel_rfl
def vt43 : VT :=
  (.need (.t true) (.pre 24 (.cons (.var 0) (.cons (.var 1) (.cons (.var 2) (.cons (.var 3) (.cons (.var 4) .nil))))))
  (.lt (.app 24 (.cons (.var 0) (.cons (.var 1) (.cons (.var 2) (.cons (.var 3) (.cons (.var 4) .nil))))) 0) 1
  (.ite (.ite (.ite (.un .not (.bin .eq (.var 6) (.n 0))) (.t true) (.bin .lt (.var 5) (.n (-1)))) (.t true) (.bin .le (.un .len (.var 4)) (.var 5)))
   (.ret (.cons (.n 0) .nil))
   (.need (.t true) (.pre 58 (.cons (.var 0) (.cons (.var 1) (.cons (.var 2) (.cons (.var 3) (.cons (.var 4) (.cons (.var 5) .nil)))))))
   (.lt (.app 58 (.cons (.var 0) (.cons (.var 1) (.cons (.var 2) (.cons (.var 3) (.cons (.var 4) (.cons (.var 5) .nil)))))) 0) 1
   (.ret (.cons (.var 7) .nil)))))))
theorem e43 : (fnVT Try.prog (sgOf sg43) (ltOf lt43) S43 Try.f43 c43).slim (S43.ps.map fun p => p.2.length).sum [] = vt43 := by kernel_rfl
def S42 : Sig := ⟨[(false, [i6]), (false, [i6]), (false, [(.pt [.str, .bool, (.sl 43 [.str, .str, i6, i6, i6, (.sl 116 [.str, i6])]), (.sl 73 [i6, i6, i6, i6, .str, i6, i6]), (.sl 105 [.str, i6])])])], [(false, [i6])], [], none⟩
noncomputable def c42 : Code := Try.f42.body.getD .skip
theorem b42 : Try.f42.body = some c42 := body_some (by kernel_rfl)
theorem n42 : (Try.f42.name == "runtime.NumGoroutine") = false := by kernel_rfl
def sg42 : List (FuncId × Sig) := [(43, S43)]
def lt42 : List (Nat × LoopSig) := []
theorem k42 : (Code.loops c42).length = 0 := by kernel_rfl
def vt42 : VT :=
  (.need (.t true) (.pre 43 (.cons (.psel 0 (.var 2)) (.cons (.psel 1 (.var 2)) (.cons (.psel 2 (.var 2)) (.cons (.psel 3 (.var 2)) (.cons (.psel 4 (.var 2)) (.cons (.var 0) .nil)))))))
  (.lt (.app 43 (.cons (.psel 0 (.var 2)) (.cons (.psel 1 (.var 2)) (.cons (.psel 2 (.var 2)) (.cons (.psel 3 (.var 2)) (.cons (.psel 4 (.var 2)) (.cons (.var 0) .nil)))))) 0) 1
  (.need (.t true) (.pre 43 (.cons (.psel 0 (.var 2)) (.cons (.psel 1 (.var 2)) (.cons (.psel 2 (.var 2)) (.cons (.psel 3 (.var 2)) (.cons (.psel 4 (.var 2)) (.cons (.var 1) .nil)))))))
  (.lt (.app 43 (.cons (.psel 0 (.var 2)) (.cons (.psel 1 (.var 2)) (.cons (.psel 2 (.var 2)) (.cons (.psel 3 (.var 2)) (.cons (.psel 4 (.var 2)) (.cons (.var 1) .nil)))))) 0) 1
  (.ret (.cons (.bin (.sub .i64) (.var 3) (.var 4)) .nil))))))
theorem e42 : (fnVT Try.prog (sgOf sg42) (ltOf lt42) S42 Try.f42 c42).slim (S42.ps.map fun p => p.2.length).sum [] = vt42 := by kernel_rfl
def S69 : Sig := ⟨[(false, [(.osl 3 [i6])]), (false, [i6]), (false, [i6]), (false, [.clo])], [], [], none⟩
noncomputable def c69 : Code := Try.f69.body.getD .skip
theorem b69 : Try.f69.body = some c69 := body_some (by kernel_rfl)
theorem n69 : (Try.f69.name == "runtime.NumGoroutine") = false := by kernel_rfl
def sg69 : List (FuncId × Sig) := [(24004, S24004)]
def L69_0 : LoopSig := ⟨16901, [],
   ⟨[(.c (.row 0 1)), (.c (.x i6 (.var 0))), (.c (.x i6 (.var 1))), (.c (.x .clo (.var 2))), .any, .any, .any, .any, (.c (.x i6 (.var 3))), .any, .any, .any, .any, .any, .any, .any, .any, .any, .any, .any, .any, .any, .any, .any, .any, .any, .any, .any, .any, .any, .any, .any, .any, .any, .any, .any, .any, .any, .any, .any, .any, .any, .any, .any, .any, .any, .any, .any, .any, .any, .any, .any, .any],
    [some ⟨(.t true), (.row 3 [i6] (.var 4) 1 false)⟩]⟩,
   5, [3, 4], [12, 13, 14, 17, 9, 18, 19, 20, 21, 22, 23, 24, 25, 26, 27, 28, 29, 30, 31, 32, 33, 34, 37, 38, 39, 40, 41, 42, 43, 44, 45, 46, 47, 48, 49, 50, 51, 52, 35, 36, 15, 16, 8], [(.exit 0)], []⟩
def L69_1 : LoopSig := ⟨16900, [],
   ⟨[(.c (.row 0 1)), (.c (.x i6 (.var 0))), .any, (.c (.x .clo (.var 1))), .any, .any, .any, .any, .any, (.c (.x i6 (.var 2))), .any, .any, .any, .any, .any, .any, .any, .any, .any, .any, .any, .any, .any, .any, .any, .any, .any, .any, .any, .any, .any, .any, .any, .any, .any, .any, .any, .any, .any, .any, .any, .any, .any, .any, .any, .any, .any, .any, .any, .any, .any, .any, .any],
    [some ⟨(.t true), (.row 3 [i6] (.var 3) 1 false)⟩]⟩,
   4, [2, 3], [18, 19, 20, 21, 22, 23, 24, 25, 26, 27, 28, 29, 30, 31, 32, 33, 34, 37, 38, 39, 40, 41, 42, 43, 44, 45, 46, 47, 48, 49, 50, 51, 52, 35, 36, 9], [(.exit 2)], []⟩
def lt69 : List (Nat × LoopSig) := [(1, L69_0), (4, L69_1)]
theorem k69 : (Code.loops c69).length = 2 := by kernel_rfl
noncomputable def lb69_0 : Code := (Code.loops c69).getD 0 .skip
noncomputable def lb69_1 : Code := (Code.loops c69).getD 1 .skip
def rt69_0 : VT :=
  (.ite (.bin .lt (.var 3) (.var 1))
   (.need (.t true) (.pre 16900 (.cons (.var 0) (.cons (.var 2) (.cons (.var 3) (.cons (.var 4) .nil)))))
   (.lt (.app 16900 (.cons (.var 0) (.cons (.var 2) (.cons (.var 3) (.cons (.var 4) .nil)))) 0) 3
   (.ret (.cons (.n (-1)) (.cons (.bin (.add .i64) (.var 3) (.n 1)) (.cons (.var 7) .nil))))))
   (.ret (.cons (.n 0) (.cons (.var 3) (.cons (.var 4) .nil)))))
theorem le69_0 : (loopVT Try.prog (sgOf sg69) (ltOf lt69) L69_0 lb69_0).slim L69_0.nv [] = rt69_0 := by kernel_rfl
theorem lf69_0 : (firstRegion lb69_0).bind (ltOf lt69) = some L69_0 := by kernel_rfl
theorem lk69_0 : (Code.loops lb69_0).length = 1 := by kernel_rfl
theorem li69_0_0 : (Code.loops lb69_0).getD 0 .skip = lb69_1 := by kernel_rfl
def rt69_1 : VT :=
  (.need (.bin .lt (.var 0) (.var 2)) (.c (.bin .le (.n 0) (.var 2)))
  (.need (.bin .lt (.var 0) (.var 2)) (.c (.bin .lt (.var 2) (.un .len (.var 3))))
  (.need (.bin .lt (.var 0) (.var 2)) (.c (.bin .le (.n 0) (.bin (.sub .i64) (.var 2) (.n 1))))
  (.need (.bin .lt (.var 0) (.var 2)) (.c (.bin .lt (.bin (.sub .i64) (.var 2) (.n 1)) (.un .len (.var 3))))
  (.need (.bin .lt (.var 0) (.var 2)) (.pre 24004 (.cons (.var 1) (.cons (.sel 0 (.var 3) (.var 2)) (.cons (.sel 0 (.var 3) (.bin (.sub .i64) (.var 2) (.n 1))) .nil))))
  (.lt (.app 24004 (.cons (.var 1) (.cons (.sel 0 (.var 3) (.var 2)) (.cons (.sel 0 (.var 3) (.bin (.sub .i64) (.var 2) (.n 1))) .nil))) 0) 1
  (.ite (.ite (.bin .lt (.var 0) (.var 2)) (.bin .lt (.var 4) (.n 0)) (.t false))
   (.need (.t true) (.c (.bin .le (.n 0) (.bin (.sub .i64) (.var 2) (.n 1))))
   (.need (.t true) (.c (.bin .lt (.bin (.sub .i64) (.var 2) (.n 1)) (.un .len (.var 3))))
   (.need (.t true) (.c (.bin .le (.n 0) (.var 2)))
   (.need (.t true) (.c (.bin .lt (.var 2) (.un .len (.var 3))))
   (.need (.t true) (.c (.bin .lt (.bin (.sub .i64) (.var 2) (.n 1)) (.un .len (.upd 0 (.var 3) (.var 2) (.cons (.sel 0 (.var 3) (.bin (.sub .i64) (.var 2) (.n 1))) .nil)))))
   (.ret (.cons (.n (-1)) (.cons (.bin (.sub .i64) (.var 2) (.n 1)) (.cons (.upd 0 (.upd 0 (.var 3) (.var 2) (.cons (.sel 0 (.var 3) (.bin (.sub .i64) (.var 2) (.n 1))) .nil)) (.bin (.sub .i64) (.var 2) (.n 1)) (.cons (.sel 0 (.var 3) (.var 2)) .nil)) .nil)))))))))
   (.ret (.cons (.n 0) (.cons (.var 2) (.cons (.var 3) .nil)))))))))))
theorem le69_1 : (loopVT Try.prog (sgOf sg69) (ltOf lt69) L69_1 lb69_1).slim L69_1.nv [] = rt69_1 := by kernel_rfl
theorem lf69_1 : (firstRegion lb69_1).bind (ltOf lt69) = some L69_1 := by kernel_rfl
theorem lk69_1 : (Code.loops lb69_1).length = 0 := by kernel_rfl
def vt69 : VT :=
  (.need (.t true) (.pre 16901 (.cons (.var 1) (.cons (.var 2) (.cons (.var 3) (.cons (.bin (.add .i64) (.var 1) (.n 1)) (.cons (.var 0) .nil))))))
  (.lt (.app 16901 (.cons (.var 1) (.cons (.var 2) (.cons (.var 3) (.cons (.bin (.add .i64) (.var 1) (.n 1)) (.cons (.var 0) .nil))))) 0) 3
  (.ret (.cons (.var 6) .nil))))
theorem e69 : (rowVT Try.prog (sgOf sg69) (ltOf lt69) (qRow S69) Try.f69 c69).slim (1 + ((qRow S69).2.2.map fun p => p.2.length).sum) [] = vt69 := by kernel_rfl
def S70 : Sig := ⟨[(false, [(.osl 3 [i6])]), (false, [i6]), (false, [i6]), (false, [i6]), (false, [.clo])], [], [], none⟩
noncomputable def c70 : Code := Try.f70.body.getD .skip
theorem b70 : Try.f70.body = some c70 := body_some (by kernel_rfl)
theorem n70 : (Try.f70.name == "runtime.NumGoroutine") = false := by kernel_rfl
def S59 : Sig := ⟨[(false, [(.osl 3 [i6])]), (false, [i6]), (false, [.clo])], [], [], none⟩
noncomputable def c59 : Code := Try.f59.body.getD .skip
theorem b59 : Try.f59.body = some c59 := body_some (by kernel_rfl)
theorem n59 : (Try.f59.name == "runtime.NumGoroutine") = false := by kernel_rfl
def sg59 : List (FuncId × Sig) := [(69, S69), (70, S70)]
def L59_0 : LoopSig := ⟨15900, [],
   ⟨[(.c (.row 0 1)), (.c (.x i6 (.var 0))), (.c (.x .clo (.var 1))), .any, .any, .any, (.c (.x i6 (.var 2))), (.c (.x i6 (.var 3))), (.c (.x i6 (.var 4))), .any, .any, .any, .any, .any, .any, .any, .any, .any, .any, .any, .any, .any, .any, .any, .any, .any, .any, .any, .any, .any, .any, .any, .any, .any, .any, .any, .any, .any, .any, .any, .any, .any, .any, .any, .any, .any, .any, .any, .any, .any, .any, .any, .any, .any, .any, .any, .any, .any, .any, .any, .any, .any, .any],
    [some ⟨(.t true), (.row 3 [i6] (.var 5) 1 false)⟩]⟩,
   6, [3, 4, 5], [11, 12, 13, 14, 15, 16, 17, 18, 19, 7, 20, 21, 22, 8], [(.exit 0)], []⟩
def L59_1 : LoopSig := ⟨15902, [],
   ⟨[(.c (.row 0 1)), (.c (.x i6 (.var 0))), (.c (.x .clo (.var 1))), .any, .any, .any, (.c (.x i6 (.var 2))), .any, .any, .any, .any, .any, .any, .any, .any, .any, .any, .any, .any, .any, .any, .any, .any, .any, .any, .any, .any, .any, .any, .any, .any, .any, .any, .any, .any, .any, .any, .any, .any, .any, .any, .any, .any, .any, .any, .any, .any, .any, .any, .any, .any, .any, .any, .any, .any, .any, .any, .any, .any, .any, .any, .any, .any],
    [some ⟨(.t true), (.row 3 [i6] (.var 3) 1 false)⟩]⟩,
   4, [2, 3], [28, 29, 30, 31, 32, 7, 8, 33, 34, 35, 36, 37, 38, 39, 40, 41, 42, 43, 44, 45, 46, 47, 48, 49, 50, 51, 9, 52, 53, 54, 55, 56, 57, 58, 59, 60, 61, 62, 6], [(.exit 2)], []⟩
def L59_2 : LoopSig := ⟨15901, [],
   ⟨[(.c (.row 0 1)), (.c (.x i6 (.var 0))), (.c (.x .clo (.var 1))), .any, .any, .any, (.c (.x i6 (.var 2))), (.c (.x i6 (.var 3))), (.c (.x i6 (.var 4))), .any, .any, .any, .any, .any, .any, .any, .any, .any, .any, .any, .any, .any, .any, .any, .any, .any, .any, .any, .any, .any, .any, .any, .any, .any, .any, .any, .any, .any, .any, .any, .any, .any, .any, .any, .any, .any, .any, .any, .any, .any, .any, .any, .any, .any, .any, .any, .any, .any, .any, .any, .any, .any, .any],
    [some ⟨(.t true), (.row 3 [i6] (.var 5) 1 false)⟩]⟩,
   6, [3, 4, 5], [33, 34, 35, 36, 37, 38, 39, 40, 41, 42, 43, 44, 7, 45, 46, 47, 48, 8], [(.exit 4)], []⟩
def lt59 : List (Nat × LoopSig) := [(2, L59_0), (7, L59_1), (9, L59_2)]
theorem k59 : (Code.loops c59).length = 3 := by kernel_rfl
noncomputable def lb59_0 : Code := (Code.loops c59).getD 0 .skip
noncomputable def lb59_1 : Code := (Code.loops c59).getD 1 .skip
noncomputable def lb59_2 : Code := (Code.loops c59).getD 2 .skip
def rt59_0 : VT :=
  (.ite (.bin .le (.var 4) (.var 0))
   (.need (.t true) (.pre 69 (.cons (.var 5) (.cons (.var 3) (.cons (.var 4) (.cons (.var 1) .nil)))))
   (.lt (.app 69 (.cons (.var 5) (.cons (.var 3) (.cons (.var 4) (.cons (.var 1) .nil)))) 0) 1
   (.ret (.cons (.n (-1)) (.cons (.var 4) (.cons (.bin (.add .i64) (.var 4) (.var 2)) (.cons (.var 6) .nil)))))))
   (.ret (.cons (.n 0) (.cons (.var 3) (.cons (.var 4) (.cons (.var 5) .nil))))))
theorem le59_0 : (loopVT Try.prog (sgOf sg59) (ltOf lt59) L59_0 lb59_0).slim L59_0.nv [] = rt59_0 := by kernel_rfl
theorem lf59_0 : (firstRegion lb59_0).bind (ltOf lt59) = some L59_0 := by kernel_rfl
theorem lk59_0 : (Code.loops lb59_0).length = 0 := by kernel_rfl
def rt59_1 : VT :=
  (.ite (.bin .lt (.var 2) (.var 0))
   (.need (.t true) (.pre 15901 (.cons (.var 0) (.cons (.var 1) (.cons (.var 2) (.cons (.n 0) (.cons (.bin (.mul .i64) (.n 2) (.var 2)) (.cons (.var 3) .nil)))))))
   (.lt (.app 15901 (.cons (.var 0) (.cons (.var 1) (.cons (.var 2) (.cons (.n 0) (.cons (.bin (.mul .i64) (.n 2) (.var 2)) (.cons (.var 3) .nil)))))) 0) 4
   (.ite (.bin .lt (.bin (.add .i64) (.var 5) (.var 2)) (.var 0))
    (.need (.t true) (.pre 70 (.cons (.var 7) (.cons (.var 5) (.cons (.bin (.add .i64) (.var 5) (.var 2)) (.cons (.var 0) (.cons (.var 1) .nil))))))
    (.lt (.app 70 (.cons (.var 7) (.cons (.var 5) (.cons (.bin (.add .i64) (.var 5) (.var 2)) (.cons (.var 0) (.cons (.var 1) .nil))))) 0) 1
    (.ret (.cons (.n (-1)) (.cons (.bin (.mul .i64) (.var 2) (.n 2)) (.cons (.var 8) .nil))))))
    (.ret (.cons (.n (-1)) (.cons (.bin (.mul .i64) (.var 2) (.n 2)) (.cons (.var 7) .nil)))))))
   (.ret (.cons (.n 0) (.cons (.var 2) (.cons (.var 3) .nil)))))
theorem le59_1 : (loopVT Try.prog (sgOf sg59) (ltOf lt59) L59_1 lb59_1).slim L59_1.nv [] = rt59_1 := by kernel_rfl
theorem lf59_1 : (firstRegion lb59_1).bind (ltOf lt59) = some L59_1 := by kernel_rfl
theorem lk59_1 : (Code.loops lb59_1).length = 1 := by kernel_rfl
theorem li59_1_0 : (Code.loops lb59_1).getD 0 .skip = lb59_2 := by kernel_rfl
def rt59_2 : VT :=
  (.ite (.bin .le (.var 4) (.var 0))
   (.need (.t true) (.pre 70 (.cons (.var 5) (.cons (.var 3) (.cons (.bin (.add .i64) (.var 3) (.var 2)) (.cons (.var 4) (.cons (.var 1) .nil))))))
   (.lt (.app 70 (.cons (.var 5) (.cons (.var 3) (.cons (.bin (.add .i64) (.var 3) (.var 2)) (.cons (.var 4) (.cons (.var 1) .nil))))) 0) 1
   (.ret (.cons (.n (-1)) (.cons (.var 4) (.cons (.bin (.add .i64) (.var 4) (.bin (.mul .i64) (.n 2) (.var 2))) (.cons (.var 6) .nil)))))))
   (.ret (.cons (.n 0) (.cons (.var 3) (.cons (.var 4) (.cons (.var 5) .nil))))))
theorem le59_2 : (loopVT Try.prog (sgOf sg59) (ltOf lt59) L59_2 lb59_2).slim L59_2.nv [] = rt59_2 := by kernel_rfl
theorem lf59_2 : (firstRegion lb59_2).bind (ltOf lt59) = some L59_2 := by kernel_rfl
theorem lk59_2 : (Code.loops lb59_2).length = 0 := by kernel_rfl
def vt59 : VT :=
  (.need (.t true) (.pre 15900 (.cons (.var 1) (.cons (.var 2) (.cons (.n 20) (.cons (.n 0) (.cons (.n 20) (.cons (.var 0) .nil)))))))
  (.lt (.app 15900 (.cons (.var 1) (.cons (.var 2) (.cons (.n 20) (.cons (.n 0) (.cons (.n 20) (.cons (.var 0) .nil)))))) 0) 4
  (.need (.t true) (.pre 69 (.cons (.var 6) (.cons (.var 4) (.cons (.var 1) (.cons (.var 2) .nil)))))
  (.lt (.app 69 (.cons (.var 6) (.cons (.var 4) (.cons (.var 1) (.cons (.var 2) .nil)))) 0) 1
  (.need (.t true) (.pre 15902 (.cons (.var 1) (.cons (.var 2) (.cons (.n 20) (.cons (.var 7) .nil)))))
  (.lt (.app 15902 (.cons (.var 1) (.cons (.var 2) (.cons (.n 20) (.cons (.var 7) .nil)))) 0) 3
  (.ret (.cons (.var 10) .nil))))))))
theorem e59 : (rowVT Try.prog (sgOf sg59) (ltOf lt59) (qRow S59) Try.f59 c59).slim (1 + ((qRow S59).2.2.map fun p => p.2.length).sum) [] = vt59 := by kernel_rfl
def S41 : Sig := ⟨[(false, [(.osl 3 [i6])]), (false, [.clo])], [], [], none⟩
noncomputable def c41 : Code := Try.f41.body.getD .skip
theorem b41 : Try.f41.body = some c41 := body_some (by kernel_rfl)
theorem n41 : (Try.f41.name == "runtime.NumGoroutine") = false := by kernel_rfl
def sg41 : List (FuncId × Sig) := [(59, S59)]
def lt41 : List (Nat × LoopSig) := []
theorem k41 : (Code.loops c41).length = 0 := by kernel_rfl
def vt41 : VT :=
  (.need (.t true) (.pre 59 (.cons (.var 0) (.cons (.un .len (.var 0)) (.cons (.var 1) .nil))))
  (.lt (.app 59 (.cons (.var 0) (.cons (.un .len (.var 0)) (.cons (.var 1) .nil))) 0) 1
  (.ret (.cons (.var 2) .nil))))
theorem e41 : (rowVT Try.prog (sgOf sg41) (ltOf lt41) (qRow S41) Try.f41 c41).slim (1 + ((qRow S41).2.2.map fun p => p.2.length).sum) [] = vt41 := by kernel_rfl
def S25 : Sig := ⟨[(true, [.str, .bool, (.sl 43 [.str, .str, i6, i6, i6, (.sl 116 [.str, i6])]), (.sl 73 [i6, i6, i6, i6, .str, i6, i6]), (.sl 105 [.str, i6])])], [(false, [(.sl 3 [i6])])], [], none⟩
noncomputable def c25 : Code := Try.f25.body.getD .skip
theorem b25 : Try.f25.body = some c25 := body_some (by kernel_rfl)
theorem n25 : (Try.f25.name == "runtime.NumGoroutine") = false := by kernel_rfl
def sg25 : List (FuncId × Sig) := [(41, S41)]
def L25_0 : LoopSig := ⟨12500, [(3, none, 3)],
   ⟨[.any, .any, .any, (.c (.row 1 1)), .any, .any, .any, (.c (.x i6 (.var 0))), (.c (.x i6 (.var 1))), .any, .any, .any, .any, .any, .any, .any, .any, .any, .any, .any],
    [none, some ⟨(.t true), (.row 3 [i6] (.var 2) 1 false)⟩]⟩,
   3, [1, 2], [9, 10, 4, 11, 12, 13, 14, 3, 15, 8], [(.exit 0)], [2]⟩
def lt25 : List (Nat × LoopSig) := [(3, L25_0)]
theorem k25 : (Code.loops c25).length = 1 := by kernel_rfl
noncomputable def lb25_0 : Code := (Code.loops c25).getD 0 .skip
def rt25_0 : VT :=
  (.ite (.bin .lt (.var 1) (.var 0))
   (.need (.t true) (.c (.bin .le (.un .len (.bin .cat (.var 2) (.lcons (.cons (.var 1) .nil) .lnil))) (.n 17592186044416)))
   (.ret (.cons (.n (-1)) (.cons (.bin (.add .i64) (.var 1) (.n 1)) (.cons (.bin .cat (.var 2) (.lcons (.cons (.var 1) .nil) .lnil)) .nil)))))
   (.ret (.cons (.n 0) (.cons (.var 1) (.cons (.var 2) .nil)))))
theorem le25_0 : (loopVT Try.prog (sgOf sg25) (ltOf lt25) L25_0 lb25_0).slim L25_0.nv [] = rt25_0 := by kernel_rfl
theorem lf25_0 : (firstRegion lb25_0).bind (ltOf lt25) = some L25_0 := by kernel_rfl
theorem lk25_0 : (Code.loops lb25_0).length = 0 := by kernel_rfl
def vt25 : VT :=
  (.need (.t true) (.pre 12500 (.cons (.un .len (.var 4)) (.cons (.n 0) (.cons .lnil .nil))))
  (.lt (.app 12500 (.cons (.un .len (.var 4)) (.cons (.n 0) (.cons .lnil .nil))) 0) 3
  (.need (.t true) (.pre 41 (.cons (.var 7) (.cons (.clo 42 [(.pt [.str, .bool, (.sl 43 [.str, .str, i6, i6, i6, (.sl 116 [.str, i6])]), (.sl 73 [i6, i6, i6, i6, .str, i6, i6]), (.sl 105 [.str, i6])])] (.cons (.pk (.cons (.var 0) (.cons (.var 1) (.cons (.var 2) (.cons (.var 3) (.cons (.var 4) .nil)))))) .nil)) .nil)))
  (.lt (.app 41 (.cons (.var 7) (.cons (.clo 42 [(.pt [.str, .bool, (.sl 43 [.str, .str, i6, i6, i6, (.sl 116 [.str, i6])]), (.sl 73 [i6, i6, i6, i6, .str, i6, i6]), (.sl 105 [.str, i6])])] (.cons (.pk (.cons (.var 0) (.cons (.var 1) (.cons (.var 2) (.cons (.var 3) (.cons (.var 4) .nil)))))) .nil)) .nil)) 0) 1
  (.ret (.cons (.var 8) .nil))))))
theorem e25 : (fnVT Try.prog (sgOf sg25) (ltOf lt25) S25 Try.f25 c25).slim (S25.ps.map fun p => p.2.length).sum [] = vt25 := by kernel_rfl
def S26 : Sig := ⟨[(false, [(.sl 26 [i6, i6])])], [(false, [(.osl 26 [i6, i6])])], [], none⟩
noncomputable def c26 : Code := Try.f26.body.getD .skip
theorem b26 : Try.f26.body = some c26 := body_some (by kernel_rfl)
theorem n26 : (Try.f26.name == "runtime.NumGoroutine") = false := by kernel_rfl
def S44 : Sig := ⟨[(true, [i6, i6, i6, i6, i6, i6, (.sl 26 [i6, i6]), .str])], [(false, [.bool])], [], none⟩
noncomputable def c44 : Code := Try.f44.body.getD .skip
theorem b44 : Try.f44.body = some c44 := body_some (by kernel_rfl)
theorem n44 : (Try.f44.name == "runtime.NumGoroutine") = false := by kernel_rfl
def sg44 : List (FuncId × Sig) := []
def lt44 : List (Nat × LoopSig) := []
theorem k44 : (Code.loops c44).length = 0 := by kernel_rfl
def vt44 : VT :=
  (.ret (.cons (.ite (.bin .le (.n 1) (.var 0)) (.bin .le (.var 0) (.n 4)) (.t false)) .nil))
theorem e44 : (fnVT Try.prog (sgOf sg44) (ltOf lt44) S44 Try.f44 c44).slim (S44.ps.map fun p => p.2.length).sum [] = vt44 := by kernel_rfl
def T44 : FuncId → List D → List D := tabOf []
def fn44 (ρ : List D) : List D := vt44.val T44 ρ
theorem m44 : Meets Try.prog 44 S44 (fun _ => True) fn44 := meets_easy (sgl := sg44) (Φ := T44) mixed ((fun _ h => nomatch h)) Try.func44 b44 n44 k44 e44 (by kernel_rfl)
def S45 : Sig := ⟨[(true, [i6, i6, i6, i6, i6, i6, (.sl 26 [i6, i6]), .str])], [(false, [.ifc])], [], none⟩
noncomputable def c45 : Code := Try.f45.body.getD .skip
theorem b45 : Try.f45.body = some c45 := body_some (by kernel_rfl)
theorem n45 : (Try.f45.name == "runtime.NumGoroutine") = false := by kernel_rfl
def sg45 : List (FuncId × Sig) := []
def lt45 : List (Nat × LoopSig) := []
theorem k45 : (Code.loops c45).length = 0 := by kernel_rfl
def vt45 : VT :=
  (.ite (.bin .eq (.var 0) (.n 3))
   (.ret (.cons (.clo 110 [(.sl 26 [i6, i6])] (.cons (.var 6) .nil)) .nil))
   (.ret (.cons (.clo 112 [i6, i6, i6, i6] (.cons (.var 2) (.cons (.var 3) (.cons (.var 4) (.cons (.var 5) .nil))))) .nil)))
theorem e45 : (fnVT Try.prog (sgOf sg45) (ltOf lt45) S45 Try.f45 c45).slim (S45.ps.map fun p => p.2.length).sum [] = vt45 := by kernel_rfl
def T45 : FuncId → List D → List D := tabOf []
def fn45 (ρ : List D) : List D := vt45.val T45 ρ
theorem m45 : Meets Try.prog 45 S45 (fun _ => True) fn45 := meets_easy (sgl := sg45) (Φ := T45) mixed ((fun _ h => nomatch h)) Try.func45 b45 n45 k45 e45 (by kernel_rfl)
def S92 : Sig := ⟨[(false, [(.sl 26 [i6, i6])])], [(false, [.bool])], [], none⟩
noncomputable def c92 : Code := Try.f92.body.getD .skip
theorem b92 : Try.f92.body = some c92 := body_some (by kernel_rfl)
theorem n92 : (Try.f92.name == "runtime.NumGoroutine") = false := by kernel_rfl
def sg92 : List (FuncId × Sig) := []
def L92_0 : LoopSig := ⟨19200, [],
   ⟨[(.c (.x (.sl 26 [i6, i6]) (.var 0))), .any, (.c (.x .bool (.var 1))), (.c (.x i6 (.var 2))), .any, .any, .any, .any, .any, .any, .any, .any, .any, .any, .any, .any, .any, .any, .any, .any],
    []⟩,
   3, [1, 2], [4, 5, 6, 7, 10, 11, 12, 13, 14, 15, 16, 17, 18, 19, 2, 8, 9, 3], [.ret, (.exit 0)], []⟩
def lt92 : List (Nat × LoopSig) := [(2, L92_0)]
theorem k92 : (Code.loops c92).length = 1 := by kernel_rfl
noncomputable def lb92_0 : Code := (Code.loops c92).getD 0 .skip
def rt92_0 : VT :=
  (.ite (.bin .lt (.var 2) (.un .len (.var 0)))
   (.need (.t true) (.c (.bin .le (.n 0) (.bin (.sub .i64) (.var 2) (.n 1))))
   (.need (.t true) (.c (.bin .lt (.bin (.sub .i64) (.var 2) (.n 1)) (.un .len (.var 0))))
   (.need (.t true) (.c (.bin .le (.n 0) (.var 2)))
   (.ite (.ite (.bin .eq (.sel 0 (.var 0) (.bin (.sub .i64) (.var 2) (.n 1))) (.sel 0 (.var 0) (.var 2))) (.bin .eq (.sel 1 (.var 0) (.bin (.sub .i64) (.var 2) (.n 1))) (.sel 1 (.var 0) (.var 2))) (.t false))
    (.ret (.cons (.n 0) (.cons (.t false) (.cons (.var 2) .nil))))
    (.ret (.cons (.n (-1)) (.cons (.var 1) (.cons (.bin (.add .i64) (.var 2) (.n 1)) .nil))))))))
   (.ret (.cons (.n 1) (.cons (.var 1) (.cons (.var 2) .nil)))))
theorem le92_0 : (loopVT Try.prog (sgOf sg92) (ltOf lt92) L92_0 lb92_0).slim L92_0.nv [] = rt92_0 := by kernel_rfl
theorem lf92_0 : (firstRegion lb92_0).bind (ltOf lt92) = some L92_0 := by kernel_rfl
theorem lk92_0 : (Code.loops lb92_0).length = 0 := by kernel_rfl
def vt92 : VT :=
  (.need (.t true) (.pre 19200 (.cons (.var 0) (.cons (.t false) (.cons (.n 1) .nil))))
  (.lt (.app 19200 (.cons (.var 0) (.cons (.t false) (.cons (.n 1) .nil))) 0) 3
  (.ite (.bin .eq (.var 1) (.n 0))
   (.ret (.cons (.var 2) .nil))
   (.ret (.cons (.t true) .nil)))))
theorem e92 : (fnVT Try.prog (sgOf sg92) (ltOf lt92) S92 Try.f92 c92).slim (S92.ps.map fun p => p.2.length).sum [] = vt92 := by kernel_rfl
def S96 : Sig := ⟨[(false, [(.sl 26 [i6, i6])]), (false, [.clo])], [(false, [i6])], [], none⟩
noncomputable def c96 : Code := Try.f96.body.getD .skip
theorem b96 : Try.f96.body = some c96 := body_some (by kernel_rfl)
theorem n96 : (Try.f96.name == "runtime.NumGoroutine") = false := by kernel_rfl
def sg96 : List (FuncId × Sig) := [(20027, S20027)]
def L96_0 : LoopSig := ⟨19600, [],
   ⟨[(.c (.x (.sl 26 [i6, i6]) (.var 0))), (.c (.x .clo (.var 1))), .any, .any, (.c (.x i6 (.var 2))), .any, .any, (.c (.x i6 (.var 3))), (.c (.x i6 (.var 4))), .any, .any, .any, .any, .any, .any, .any, .any, .any, .any],
    []⟩,
   5, [2, 4], [9, 10, 5, 11, 12, 13, 14, 15, 16, 17, 4, 18, 8], [.ret, (.exit 0)], []⟩
def lt96 : List (Nat × LoopSig) := [(2, L96_0)]
theorem k96 : (Code.loops c96).length = 1 := by kernel_rfl
noncomputable def lb96_0 : Code := (Code.loops c96).getD 0 .skip
def rt96_0 : VT :=
  (.ite (.bin .lt (.var 4) (.var 3))
   (.need (.t true) (.c (.bin .le (.n 0) (.var 4)))
   (.need (.t true) (.c (.bin .lt (.var 4) (.un .len (.var 0))))
   (.need (.t true) (.pre 20027 (.cons (.var 1) (.cons (.sel 0 (.var 0) (.var 4)) (.cons (.sel 1 (.var 0) (.var 4)) .nil))))
   (.lt (.app 20027 (.cons (.var 1) (.cons (.sel 0 (.var 0) (.var 4)) (.cons (.sel 1 (.var 0) (.var 4)) .nil))) 0) 1
   (.ite (.var 5)
    (.ret (.cons (.n 0) (.cons (.var 4) (.cons (.var 4) .nil))))
    (.ret (.cons (.n (-1)) (.cons (.var 2) (.cons (.bin (.add .i64) (.var 4) (.n 1)) .nil)))))))))
   (.ret (.cons (.n 1) (.cons (.var 2) (.cons (.var 4) .nil)))))
theorem le96_0 : (loopVT Try.prog (sgOf sg96) (ltOf lt96) L96_0 lb96_0).slim L96_0.nv [] = rt96_0 := by kernel_rfl
theorem lf96_0 : (firstRegion lb96_0).bind (ltOf lt96) = some L96_0 := by kernel_rfl
theorem lk96_0 : (Code.loops lb96_0).length = 0 := by kernel_rfl
def vt96 : VT :=
  (.need (.t true) (.pre 19600 (.cons (.var 0) (.cons (.var 1) (.cons (.n 0) (.cons (.un .len (.var 0)) (.cons (.n 0) .nil))))))
  (.lt (.app 19600 (.cons (.var 0) (.cons (.var 1) (.cons (.n 0) (.cons (.un .len (.var 0)) (.cons (.n 0) .nil))))) 0) 3
  (.ite (.bin .eq (.var 2) (.n 0))
   (.ret (.cons (.var 3) .nil))
   (.ret (.cons (.n (-1)) .nil)))))
theorem e96 : (fnVT Try.prog (sgOf sg96) (ltOf lt96) S96 Try.f96 c96).slim (S96.ps.map fun p => p.2.length).sum [] = vt96 := by kernel_rfl
def S94 : Sig := ⟨[(false, [(.sl 26 [i6, i6])]), (false, [.clo])], [(false, [.bool])], [], none⟩
noncomputable def c94 : Code := Try.f94.body.getD .skip
theorem b94 : Try.f94.body = some c94 := body_some (by kernel_rfl)
theorem n94 : (Try.f94.name == "runtime.NumGoroutine") = false := by kernel_rfl
def sg94 : List (FuncId × Sig) := [(96, S96)]
def lt94 : List (Nat × LoopSig) := []
theorem k94 : (Code.loops c94).length = 0 := by kernel_rfl
def vt94 : VT :=
  (.need (.t true) (.pre 96 (.cons (.var 0) (.cons (.var 1) .nil)))
  (.lt (.app 96 (.cons (.var 0) (.cons (.var 1) .nil)) 0) 1
  (.ret (.cons (.bin .le (.n 0) (.var 2)) .nil))))
theorem e94 : (fnVT Try.prog (sgOf sg94) (ltOf lt94) S94 Try.f94 c94).slim (S94.ps.map fun p => p.2.length).sum [] = vt94 := by kernel_rfl
def S30 : Sig := ⟨[(true, [i6, i6])], [(false, [.bool])], [], none⟩
noncomputable def c30 : Code := Try.f30.body.getD .skip
theorem b30 : Try.f30.body = some c30 := body_some (by kernel_rfl)
theorem n30 : (Try.f30.name == "runtime.NumGoroutine") = false := by kernel_rfl
def sg30 : List (FuncId × Sig) := []
def lt30 : List (Nat × LoopSig) := []
theorem k30 : (Code.loops c30).length = 0 := by kernel_rfl
def vt30 : VT :=
  (.ret (.cons (.ite (.ite (.ite (.bin .le (.n (-268435456)) (.var 0)) (.bin .le (.var 0) (.n 268435456)) (.t false)) (.bin .le (.n (-268435456)) (.var 1)) (.t false)) (.bin .le (.var 1) (.n 268435456)) (.t false)) .nil))
theorem e30 : (fnVT Try.prog (sgOf sg30) (ltOf lt30) S30 Try.f30 c30).slim (S30.ps.map fun p => p.2.length).sum [] = vt30 := by kernel_rfl
def T30 : FuncId → List D → List D := tabOf []
def fn30 (ρ : List D) : List D := vt30.val T30 ρ
theorem m30 : Meets Try.prog 30 S30 (fun _ => True) fn30 := meets_easy (sgl := sg30) (Φ := T30) mixed ((fun _ h => nomatch h)) Try.func30 b30 n30 k30 e30 (by kernel_rfl)
def S95 : Sig := ⟨[(true, [i6, i6])], [(false, [.bool])], [], none⟩
noncomputable def c95 : Code := Try.f95.body.getD .skip
theorem b95 : Try.f95.body = some c95 := body_some (by kernel_rfl)
theorem n95 : (Try.f95.name == "runtime.NumGoroutine") = false := by kernel_rfl
def sg95 : List (FuncId × Sig) := [(30, S30)]
def lt95 : List (Nat × LoopSig) := []
theorem k95 : (Code.loops c95).length = 0 := by kernel_rfl
def vt95 : VT :=
  (.need (.t true) (.pre 30 (.cons (.var 0) (.cons (.var 1) .nil)))
  (.lt (.app 30 (.cons (.var 0) (.cons (.var 1) .nil)) 0) 1
  (.ret (.cons (.un .not (.var 2)) .nil))))
theorem e95 : (fnVT Try.prog (sgOf sg95) (ltOf lt95) S95 Try.f95 c95).slim (S95.ps.map fun p => p.2.length).sum [] = vt95 := by kernel_rfl
def T95 : FuncId → List D → List D := tabOf [(30, fn30)]
def fn95 (ρ : List D) : List D := vt95.val T95 ρ
theorem m95 : Meets Try.prog 95 S95 (fun _ => True) fn95 := meets_easy (sgl := sg95) (Φ := T95) mixed (List.forall_mem_cons.2 ⟨m30, (fun _ h => nomatch h)⟩) Try.func95 b95 n95 k95 e95 (by kernel_rfl)
def S93 : Sig := ⟨[(false, [(.sl 26 [i6, i6])])], [(false, [.bool])], [], none⟩
noncomputable def c93 : Code := Try.f93.body.getD .skip
theorem b93 : Try.f93.body = some c93 := body_some (by kernel_rfl)
theorem n93 : (Try.f93.name == "runtime.NumGoroutine") = false := by kernel_rfl
def sg93 : List (FuncId × Sig) := [(94, S94)]
def lt93 : List (Nat × LoopSig) := []
theorem k93 : (Code.loops c93).length = 0 := by kernel_rfl
def vt93 : VT :=
  (.need (.ite (.bin .le (.n 1) (.un .len (.var 0))) (.bin .le (.un .len (.var 0)) (.n 512)) (.t false)) (.pre 94 (.cons (.var 0) (.cons (.clo 95 [] .nil) .nil)))
  (.lt (.app 94 (.cons (.var 0) (.cons (.clo 95 [] .nil) .nil)) 0) 1
  (.ret (.cons (.ite (.ite (.bin .le (.n 1) (.un .len (.var 0))) (.bin .le (.un .len (.var 0)) (.n 512)) (.t false)) (.un .not (.var 1)) (.t false)) .nil))))
theorem e93 : (fnVT Try.prog (sgOf sg93) (ltOf lt93) S93 Try.f93 c93).slim (S93.ps.map fun p => p.2.length).sum [] = vt93 := by kernel_rfl
def S91 : Sig := ⟨[(false, [(.sl 26 [i6, i6])])], [(false, [.bool])], [], none⟩
noncomputable def c91 : Code := Try.f91.body.getD .skip
theorem b91 : Try.f91.body = some c91 := body_some (by kernel_rfl)
theorem n91 : (Try.f91.name == "runtime.NumGoroutine") = false := by kernel_rfl
def sg91 : List (FuncId × Sig) := [(92, S92), (93, S93)]
def lt91 : List (Nat × LoopSig) := []
theorem k91 : (Code.loops c91).length = 0 := by kernel_rfl
def vt91 : VT :=
  (.need (.t true) (.pre 92 (.cons (.var 0) .nil))
  (.lt (.app 92 (.cons (.var 0) .nil) 0) 1
  (.need (.var 1) (.pre 93 (.cons (.var 0) .nil))
  (.lt (.app 93 (.cons (.var 0) .nil) 0) 1
  (.ret (.cons (.ite (.var 1) (.var 2) (.t false)) .nil))))))
theorem e91 : (fnVT Try.prog (sgOf sg91) (ltOf lt91) S91 Try.f91 c91).slim (S91.ps.map fun p => p.2.length).sum [] = vt91 := by kernel_rfl
def S90 : Sig := ⟨[(false, [(.sl 26 [i6, i6])])], [(true, [i6, i6, i6, i6])], [], none⟩
noncomputable def c90 : Code := Try.f90.body.getD .skip
theorem b90 : Try.f90.body = some c90 := body_some (by kernel_rfl)
theorem n90 : (Try.f90.name == "runtime.NumGoroutine") = false := by kernel_rfl
def sg90 : List (FuncId × Sig) := [(91, S91)]
def L90_0 : LoopSig := ⟨19000, [],
   ⟨[.any, .any, .any, (.c (.ptr 1 0)), .any, .any, .any, .any, .any, .any, .any, .any, .any, .any, .any, .any, .any, .any, .any, .any, .any, .any, .any, .any, .any, .any, .any, (.c (.x (.sl 26 [i6, i6]) (.var 0))), (.c (.x i6 (.var 1))), (.c (.x i6 (.var 2))), .any, .any, .any, .any, .any, .any, .any, .any, .any, .any, .any, .any, .any, .any, .any, .any, .any, .any, .any, .any, .any, .any, .any, .any, .any, .any],
    [none, some ⟨(.t true), (.box 35 [(.x i6 (.var 3)), (.x i6 (.var 4)), (.x i6 (.var 5)), (.x i6 (.var 6))] false)⟩]⟩,
   7, [2, 3, 4, 5, 6], [30, 31, 32, 5, 33, 34, 35, 36, 37, 38, 39, 40, 41, 42, 43, 44, 45, 46, 47, 48, 49, 50, 51, 52, 53, 54, 29], [(.exit 0)], []⟩
def lt90 : List (Nat × LoopSig) := [(5, L90_0)]
theorem k90 : (Code.loops c90).length = 1 := by kernel_rfl
noncomputable def lb90_0 : Code := (Code.loops c90).getD 0 .skip
def rt90_0 : VT :=
  (.ite (.bin .lt (.var 2) (.var 1))
   (.need (.t true) (.c (.bin .le (.n 0) (.var 2)))
   (.need (.t true) (.c (.bin .lt (.var 2) (.un .len (.var 0))))
   (.ret (.cons (.n (-1)) (.cons (.bin (.add .i64) (.var 2) (.n 1)) (.cons (.bin .min (.var 3) (.sel 0 (.var 0) (.var 2))) (.cons (.bin .min (.var 4) (.sel 1 (.var 0) (.var 2))) (.cons (.bin .max (.var 5) (.sel 0 (.var 0) (.var 2))) (.cons (.bin .max (.var 6) (.sel 1 (.var 0) (.var 2))) .nil)))))))))
   (.ret (.cons (.n 0) (.cons (.var 2) (.cons (.var 3) (.cons (.var 4) (.cons (.var 5) (.cons (.var 6) .nil))))))))
theorem le90_0 : (loopVT Try.prog (sgOf sg90) (ltOf lt90) L90_0 lb90_0).slim L90_0.nv [] = rt90_0 := by kernel_rfl
theorem lf90_0 : (firstRegion lb90_0).bind (ltOf lt90) = some L90_0 := by kernel_rfl
theorem lk90_0 : (Code.loops lb90_0).length = 0 := by kernel_rfl
def vt90 : VT :=
  (.need (.t true) (.pre 91 (.cons (.var 0) .nil))
  (.lt (.app 91 (.cons (.var 0) .nil) 0) 1
  (.ite (.un .not (.var 1))
   (.ret (.cons (.n 0) (.cons (.n 0) (.cons (.n 0) (.cons (.n 0) .nil)))))
   (.need (.t true) (.c (.bin .lt (.n 0) (.un .len (.var 0))))
   (.need (.t true) (.pre 19000 (.cons (.var 0) (.cons (.un .len (.var 0)) (.cons (.n 0) (.cons (.sel 0 (.var 0) (.n 0)) (.cons (.sel 1 (.var 0) (.n 0)) (.cons (.sel 0 (.var 0) (.n 0)) (.cons (.sel 1 (.var 0) (.n 0)) .nil))))))))
   (.lt (.app 19000 (.cons (.var 0) (.cons (.un .len (.var 0)) (.cons (.n 0) (.cons (.sel 0 (.var 0) (.n 0)) (.cons (.sel 1 (.var 0) (.n 0)) (.cons (.sel 0 (.var 0) (.n 0)) (.cons (.sel 1 (.var 0) (.n 0)) .nil))))))) 0) 6
   (.ret (.cons (.var 4) (.cons (.var 5) (.cons (.var 6) (.cons (.var 7) .nil)))))))))))
theorem e90 : (fnVT Try.prog (sgOf sg90) (ltOf lt90) S90 Try.f90 c90).slim (S90.ps.map fun p => p.2.length).sum [] = vt90 := by kernel_rfl
def S89 : Sig := ⟨[(true, [(.sl 26 [i6, i6])])], [(true, [i6, i6, i6, i6]), (false, [.bool])], [], none⟩
noncomputable def c89 : Code := Try.f89.body.getD .skip
theorem b89 : Try.f89.body = some c89 := body_some (by kernel_rfl)
theorem n89 : (Try.f89.name == "runtime.NumGoroutine") = false := by kernel_rfl
def sg89 : List (FuncId × Sig) := [(90, S90), (91, S91)]
def lt89 : List (Nat × LoopSig) := []
theorem k89 : (Code.loops c89).length = 0 := by kernel_rfl
def vt89 : VT :=
  (.need (.t true) (.pre 90 (.cons (.var 0) .nil))
  (.lt (.app 90 (.cons (.var 0) .nil) 0) 4
  (.need (.t true) (.pre 91 (.cons (.var 0) .nil))
  (.lt (.app 91 (.cons (.var 0) .nil) 0) 1
  (.ret (.cons (.var 1) (.cons (.var 2) (.cons (.var 3) (.cons (.var 4) (.cons (.var 5) .nil))))))))))
theorem e89 : (fnVT Try.prog (sgOf sg89) (ltOf lt89) S89 Try.f89 c89).slim (S89.ps.map fun p => p.2.length).sum [] = vt89 := by kernel_rfl
def S17 : Sig := ⟨[(true, [i6, i6, i6, i6])], [(false, [.bool])], [], none⟩
noncomputable def c17 : Code := Try.f17.body.getD .skip
theorem b17 : Try.f17.body = some c17 := body_some (by kernel_rfl)
theorem n17 : (Try.f17.name == "runtime.NumGoroutine") = false := by kernel_rfl
def sg17 : List (FuncId × Sig) := [(30, S30)]
def lt17 : List (Nat × LoopSig) := []
theorem k17 : (Code.loops c17).length = 0 := by kernel_rfl
def vt17 : VT :=
  (.need (.t true) (.pre 30 (.cons (.var 0) (.cons (.var 1) .nil)))
  (.lt (.app 30 (.cons (.var 0) (.cons (.var 1) .nil)) 0) 1
  (.need (.var 4) (.pre 30 (.cons (.var 2) (.cons (.var 3) .nil)))
  (.lt (.app 30 (.cons (.var 2) (.cons (.var 3) .nil)) 0) 1
  (.ret (.cons (.ite (.ite (.ite (.var 4) (.var 5) (.t false)) (.bin .le (.var 0) (.var 2)) (.t false)) (.bin .le (.var 1) (.var 3)) (.t false)) .nil))))))
theorem e17 : (fnVT Try.prog (sgOf sg17) (ltOf lt17) S17 Try.f17 c17).slim (S17.ps.map fun p => p.2.length).sum [] = vt17 := by kernel_rfl
def T17 : FuncId → List D → List D := tabOf [(30, fn30)]
def fn17 (ρ : List D) : List D := vt17.val T17 ρ
theorem m17 : Meets Try.prog 17 S17 (fun _ => True) fn17 := meets_easy (sgl := sg17) (Φ := T17) mixed (List.forall_mem_cons.2 ⟨m30, (fun _ h => nomatch h)⟩) Try.func17 b17 n17 k17 e17 (by kernel_rfl)
def S97 : Sig := ⟨[(true, [i6, i6, i6, i6])], [(true, [i6, i6, i6, i6]), (false, [.bool])], [], none⟩
noncomputable def c97 : Code := Try.f97.body.getD .skip
theorem b97 : Try.f97.body = some c97 := body_some (by kernel_rfl)
theorem n97 : (Try.f97.name == "runtime.NumGoroutine") = false := by kernel_rfl
def sg97 : List (FuncId × Sig) := [(17, S17)]
def lt97 : List (Nat × LoopSig) := []
theorem k97 : (Code.loops c97).length = 0 := by kernel_rfl
def vt97 : VT :=
  (.need (.t true) (.pre 17 (.cons (.var 0) (.cons (.var 1) (.cons (.var 2) (.cons (.var 3) .nil)))))
  (.lt (.app 17 (.cons (.var 0) (.cons (.var 1) (.cons (.var 2) (.cons (.var 3) .nil)))) 0) 1
  (.ret (.cons (.var 0) (.cons (.var 1) (.cons (.var 2) (.cons (.var 3) (.cons (.var 4) .nil))))))))
theorem e97 : (fnVT Try.prog (sgOf sg97) (ltOf lt97) S97 Try.f97 c97).slim (S97.ps.map fun p => p.2.length).sum [] = vt97 := by kernel_rfl
def T97 : FuncId → List D → List D := tabOf [(17, fn17)]
def fn97 (ρ : List D) : List D := vt97.val T97 ρ
theorem m97 : Meets Try.prog 97 S97 (fun _ => True) fn97 := meets_easy (sgl := sg97) (Φ := T97) mixed (List.forall_mem_cons.2 ⟨m17, (fun _ h => nomatch h)⟩) Try.func97 b97 n97 k97 e97 (by kernel_rfl)
def S46 : Sig := ⟨[(false, [(.sl 35 [i6, i6, i6, i6])])], [(true, [i6, i6, i6, i6])], [], none⟩
noncomputable def c46 : Code := Try.f46.body.getD .skip
theorem b46 : Try.f46.body = some c46 := body_some (by kernel_rfl)
theorem n46 : (Try.f46.name == "runtime.NumGoroutine") = false := by kernel_rfl
def sg46 : List (FuncId × Sig) := [(17, S17)]
def L46_0 : LoopSig := ⟨14600, [],
   ⟨[.any, .any, .any, (.c (.ptr 1 0)), (.c (.x .bool (.var 0))), .any, .any, (.c (.x (.sl 35 [i6, i6, i6, i6]) (.var 1))), (.c (.x i6 (.var 2))), (.c (.x i6 (.var 3))), .any, .any, .any, .any, .any, .any, .any, .any, .any, .any, .any, .any, .any, .any, .any, .any, .any, .any, .any, .any, .any, .any, .any, .any, .any, .any, .any, .any, .any, .any, .any, .any, .any],
    [none, some ⟨(.t true), (.box 35 [(.x i6 (.var 4)), (.x i6 (.var 5)), (.x i6 (.var 6)), (.x i6 (.var 7))] false)⟩]⟩,
   8, [0, 3, 4, 5, 6, 7], [10, 11, 12, 6, 35, 36, 37, 34, 39, 38, 40, 4, 13, 14, 15, 16, 17, 18, 19, 20, 21, 22, 23, 24, 25, 26, 27, 28, 29, 30, 31, 32, 33, 41, 9], [(.exit 0)], []⟩
def lt46 : List (Nat × LoopSig) := [(4, L46_0)]
theorem k46 : (Code.loops c46).length = 1 := by kernel_rfl
noncomputable def lb46_0 : Code := (Code.loops c46).getD 0 .skip
def rt46_0 : VT :=
  (.ite (.bin .lt (.var 3) (.var 2))
   (.need (.t true) (.c (.bin .le (.n 0) (.var 3)))
   (.need (.t true) (.c (.bin .lt (.var 3) (.un .len (.var 1))))
   (.need (.t true) (.pre 17 (.cons (.sel 0 (.var 1) (.var 3)) (.cons (.sel 1 (.var 1) (.var 3)) (.cons (.sel 2 (.var 1) (.var 3)) (.cons (.sel 3 (.var 1) (.var 3)) .nil)))))
   (.lt (.app 17 (.cons (.sel 0 (.var 1) (.var 3)) (.cons (.sel 1 (.var 1) (.var 3)) (.cons (.sel 2 (.var 1) (.var 3)) (.cons (.sel 3 (.var 1) (.var 3)) .nil)))) 0) 1
   (.ite (.un .not (.var 8))
    (.ret (.cons (.n (-1)) (.cons (.var 0) (.cons (.bin (.add .i64) (.var 3) (.n 1)) (.cons (.var 4) (.cons (.var 5) (.cons (.var 6) (.cons (.var 7) .nil))))))))
    (.ite (.var 0)
     (.ret (.cons (.n (-1)) (.cons (.t false) (.cons (.bin (.add .i64) (.var 3) (.n 1)) (.cons (.sel 0 (.var 1) (.var 3)) (.cons (.sel 1 (.var 1) (.var 3)) (.cons (.sel 2 (.var 1) (.var 3)) (.cons (.sel 3 (.var 1) (.var 3)) .nil))))))))
     (.ret (.cons (.n (-1)) (.cons (.var 0) (.cons (.bin (.add .i64) (.var 3) (.n 1)) (.cons (.bin .min (.var 4) (.sel 0 (.var 1) (.var 3))) (.cons (.bin .min (.var 5) (.sel 1 (.var 1) (.var 3))) (.cons (.bin .max (.var 6) (.sel 2 (.var 1) (.var 3))) (.cons (.bin .max (.var 7) (.sel 3 (.var 1) (.var 3))) .nil))))))))))))))
   (.ret (.cons (.n 0) (.cons (.var 0) (.cons (.var 3) (.cons (.var 4) (.cons (.var 5) (.cons (.var 6) (.cons (.var 7) .nil)))))))))
theorem le46_0 : (loopVT Try.prog (sgOf sg46) (ltOf lt46) L46_0 lb46_0).slim L46_0.nv [] = rt46_0 := by kernel_rfl
theorem lf46_0 : (firstRegion lb46_0).bind (ltOf lt46) = some L46_0 := by kernel_rfl
theorem lk46_0 : (Code.loops lb46_0).length = 0 := by kernel_rfl
def vt46 : VT :=
  (.need (.t true) (.pre 14600 (.cons (.t true) (.cons (.var 0) (.cons (.un .len (.var 0)) (.cons (.n 0) (.cons (.n 0) (.cons (.n 0) (.cons (.n 0) (.cons (.n 0) .nil)))))))))
  (.lt (.app 14600 (.cons (.t true) (.cons (.var 0) (.cons (.un .len (.var 0)) (.cons (.n 0) (.cons (.n 0) (.cons (.n 0) (.cons (.n 0) (.cons (.n 0) .nil)))))))) 0) 7
  (.ret (.cons (.var 4) (.cons (.var 5) (.cons (.var 6) (.cons (.var 7) .nil)))))))
theorem e46 : (fnVT Try.prog (sgOf sg46) (ltOf lt46) S46 Try.f46 c46).slim (S46.ps.map fun p => p.2.length).sum [] = vt46 := by kernel_rfl
def S27 : Sig := ⟨[(false, [(.sl 70 [i6, i6, i6, i6, i6, i6, (.sl 26 [i6, i6]), .str])])], [(true, [i6, i6, i6, i6])], [], none⟩
noncomputable def c27 : Code := Try.f27.body.getD .skip
theorem b27 : Try.f27.body = some c27 := body_some (by kernel_rfl)
theorem n27 : (Try.f27.name == "runtime.NumGoroutine") = false := by kernel_rfl
def sg27 : List (FuncId × Sig) := [(44, S44), (45, S45), (89, S89), (97, S97), (46, S46)]
def L27_0 : LoopSig := ⟨12700, [(3, none, 35)],
   ⟨[.any, .any, .any, (.c (.row 1 1)), .any, .any, .any, .any, (.c (.x (.sl 70 [i6, i6, i6, i6, i6, i6, (.sl 26 [i6, i6]), .str]) (.var 0))), (.c (.x i6 (.var 1))), (.c (.x i6 (.var 2))), .any, .any, .any, .any, .any, .any, .any, .any, .any, .any, .any, .any, .any, .any, .any, .any, .any, .any, .any, .any],
    [none, some ⟨(.t true), (.row 35 [i6, i6, i6, i6] (.var 3) 1 false)⟩]⟩,
   4, [2, 3], [11, 12, 13, 5, 14, 15, 16, 18, 19, 20, 17, 21, 22, 6, 7, 23, 24, 25, 26, 27, 3, 28, 10], [(.exit 0)], [3]⟩
def lt27 : List (Nat × LoopSig) := [(3, L27_0)]
theorem k27 : (Code.loops c27).length = 1 := by kernel_rfl
noncomputable def lb27_0 : Code := (Code.loops c27).getD 0 .skip
def rt27_0 : VT :=
  (.ite (.bin .lt (.var 2) (.var 1))
   (.need (.t true) (.c (.bin .le (.n 0) (.var 2)))
   (.need (.t true) (.c (.bin .lt (.var 2) (.un .len (.var 0))))
   (.need (.t true) (.pre 44 (.cons (.sel 0 (.var 0) (.var 2)) (.cons (.sel 1 (.var 0) (.var 2)) (.cons (.sel 2 (.var 0) (.var 2)) (.cons (.sel 3 (.var 0) (.var 2)) (.cons (.sel 4 (.var 0) (.var 2)) (.cons (.sel 5 (.var 0) (.var 2)) (.cons (.sel 6 (.var 0) (.var 2)) (.cons (.sel 7 (.var 0) (.var 2)) .nil)))))))))
   (.lt (.app 44 (.cons (.sel 0 (.var 0) (.var 2)) (.cons (.sel 1 (.var 0) (.var 2)) (.cons (.sel 2 (.var 0) (.var 2)) (.cons (.sel 3 (.var 0) (.var 2)) (.cons (.sel 4 (.var 0) (.var 2)) (.cons (.sel 5 (.var 0) (.var 2)) (.cons (.sel 6 (.var 0) (.var 2)) (.cons (.sel 7 (.var 0) (.var 2)) .nil)))))))) 0) 1
   (.ite (.un .not (.var 4))
    (.ret (.cons (.n (-1)) (.cons (.bin (.add .i64) (.var 2) (.n 1)) (.cons (.var 3) .nil))))
    (.need (.t true) (.pre 45 (.cons (.sel 0 (.var 0) (.var 2)) (.cons (.sel 1 (.var 0) (.var 2)) (.cons (.sel 2 (.var 0) (.var 2)) (.cons (.sel 3 (.var 0) (.var 2)) (.cons (.sel 4 (.var 0) (.var 2)) (.cons (.sel 5 (.var 0) (.var 2)) (.cons (.sel 6 (.var 0) (.var 2)) (.cons (.sel 7 (.var 0) (.var 2)) .nil)))))))))
    (.lt (.app 45 (.cons (.sel 0 (.var 0) (.var 2)) (.cons (.sel 1 (.var 0) (.var 2)) (.cons (.sel 2 (.var 0) (.var 2)) (.cons (.sel 3 (.var 0) (.var 2)) (.cons (.sel 4 (.var 0) (.var 2)) (.cons (.sel 5 (.var 0) (.var 2)) (.cons (.sel 6 (.var 0) (.var 2)) (.cons (.sel 7 (.var 0) (.var 2)) .nil)))))))) 0) 1
    (.need (.t true) (.c (.ite (.un (.tag 110) (.var 5)) (.t true) (.ite (.un (.tag 112) (.var 5)) (.t true) (.t false))))
    (.need (.t true) (.ct (.un (.tag 110) (.var 5)) [(.sl 26 [i6, i6])] (.var 5))
    (.need (.t true) (.pg (.un (.tag 110) (.var 5)) 89 (.cons (.psel 0 (.var 5)) .nil))
    (.need (.t true) (.ct (.un (.tag 112) (.var 5)) [i6, i6, i6, i6] (.var 5))
    (.need (.t true) (.pg (.un (.tag 112) (.var 5)) 97 (.cons (.psel 0 (.var 5)) (.cons (.psel 1 (.var 5)) (.cons (.psel 2 (.var 5)) (.cons (.psel 3 (.var 5)) .nil)))))
    (.ite (.ite (.un (.tag 110) (.var 5)) (.app 89 (.cons (.psel 0 (.var 5)) .nil) 4) (.ite (.un (.tag 112) (.var 5)) (.app 97 (.cons (.psel 0 (.var 5)) (.cons (.psel 1 (.var 5)) (.cons (.psel 2 (.var 5)) (.cons (.psel 3 (.var 5)) .nil)))) 4) (.n 0)))
     (.need (.t true) (.c (.bin .le (.un .len (.bin .cat (.var 3) (.lcons (.cons (.ite (.un (.tag 110) (.var 5)) (.app 89 (.cons (.psel 0 (.var 5)) .nil) 0) (.ite (.un (.tag 112) (.var 5)) (.app 97 (.cons (.psel 0 (.var 5)) (.cons (.psel 1 (.var 5)) (.cons (.psel 2 (.var 5)) (.cons (.psel 3 (.var 5)) .nil)))) 0) (.n 0))) (.cons (.ite (.un (.tag 110) (.var 5)) (.app 89 (.cons (.psel 0 (.var 5)) .nil) 1) (.ite (.un (.tag 112) (.var 5)) (.app 97 (.cons (.psel 0 (.var 5)) (.cons (.psel 1 (.var 5)) (.cons (.psel 2 (.var 5)) (.cons (.psel 3 (.var 5)) .nil)))) 1) (.n 0))) (.cons (.ite (.un (.tag 110) (.var 5)) (.app 89 (.cons (.psel 0 (.var 5)) .nil) 2) (.ite (.un (.tag 112) (.var 5)) (.app 97 (.cons (.psel 0 (.var 5)) (.cons (.psel 1 (.var 5)) (.cons (.psel 2 (.var 5)) (.cons (.psel 3 (.var 5)) .nil)))) 2) (.n 0))) (.cons (.ite (.un (.tag 110) (.var 5)) (.app 89 (.cons (.psel 0 (.var 5)) .nil) 3) (.ite (.un (.tag 112) (.var 5)) (.app 97 (.cons (.psel 0 (.var 5)) (.cons (.psel 1 (.var 5)) (.cons (.psel 2 (.var 5)) (.cons (.psel 3 (.var 5)) .nil)))) 3) (.n 0))) .nil)))) .lnil))) (.n 4398046511104)))
     (.ret (.cons (.n (-1)) (.cons (.bin (.add .i64) (.var 2) (.n 1)) (.cons (.bin .cat (.var 3) (.lcons (.cons (.ite (.un (.tag 110) (.var 5)) (.app 89 (.cons (.psel 0 (.var 5)) .nil) 0) (.ite (.un (.tag 112) (.var 5)) (.app 97 (.cons (.psel 0 (.var 5)) (.cons (.psel 1 (.var 5)) (.cons (.psel 2 (.var 5)) (.cons (.psel 3 (.var 5)) .nil)))) 0) (.n 0))) (.cons (.ite (.un (.tag 110) (.var 5)) (.app 89 (.cons (.psel 0 (.var 5)) .nil) 1) (.ite (.un (.tag 112) (.var 5)) (.app 97 (.cons (.psel 0 (.var 5)) (.cons (.psel 1 (.var 5)) (.cons (.psel 2 (.var 5)) (.cons (.psel 3 (.var 5)) .nil)))) 1) (.n 0))) (.cons (.ite (.un (.tag 110) (.var 5)) (.app 89 (.cons (.psel 0 (.var 5)) .nil) 2) (.ite (.un (.tag 112) (.var 5)) (.app 97 (.cons (.psel 0 (.var 5)) (.cons (.psel 1 (.var 5)) (.cons (.psel 2 (.var 5)) (.cons (.psel 3 (.var 5)) .nil)))) 2) (.n 0))) (.cons (.ite (.un (.tag 110) (.var 5)) (.app 89 (.cons (.psel 0 (.var 5)) .nil) 3) (.ite (.un (.tag 112) (.var 5)) (.app 97 (.cons (.psel 0 (.var 5)) (.cons (.psel 1 (.var 5)) (.cons (.psel 2 (.var 5)) (.cons (.psel 3 (.var 5)) .nil)))) 3) (.n 0))) .nil)))) .lnil)) .nil)))))
     (.ret (.cons (.n (-1)) (.cons (.bin (.add .i64) (.var 2) (.n 1)) (.cons (.var 3) .nil)))))))))))))))))
   (.ret (.cons (.n 0) (.cons (.var 2) (.cons (.var 3) .nil)))))
theorem le27_0 : (loopVT Try.prog (sgOf sg27) (ltOf lt27) L27_0 lb27_0).slim L27_0.nv [] = rt27_0 := by kernel_rfl
theorem lf27_0 : (firstRegion lb27_0).bind (ltOf lt27) = some L27_0 := by kernel_rfl
theorem lk27_0 : (Code.loops lb27_0).length = 0 := by kernel_rfl
def vt27 : VT :=
  (.need (.t true) (.pre 12700 (.cons (.var 0) (.cons (.un .len (.var 0)) (.cons (.n 0) (.cons .lnil .nil)))))
  (.lt (.app 12700 (.cons (.var 0) (.cons (.un .len (.var 0)) (.cons (.n 0) (.cons .lnil .nil)))) 0) 3
  (.need (.t true) (.pre 46 (.cons (.var 3) .nil))
  (.lt (.app 46 (.cons (.var 3) .nil) 0) 4
  (.ret (.cons (.var 4) (.cons (.var 5) (.cons (.var 6) (.cons (.var 7) .nil)))))))))
theorem e27 : (fnVT Try.prog (sgOf sg27) (ltOf lt27) S27 Try.f27 c27).slim (S27.ps.map fun p => p.2.length).sum [] = vt27 := by kernel_rfl
def S60 : Sig := ⟨[(true, [i6, i6, i6, i6, i6, i6, (.sl 26 [i6, i6]), .str])], [(false, [.bool])], [], none⟩
noncomputable def c60 : Code := Try.f60.body.getD .skip
theorem b60 : Try.f60.body = some c60 := body_some (by kernel_rfl)
theorem n60 : (Try.f60.name == "runtime.NumGoroutine") = false := by kernel_rfl
def sg60 : List (FuncId × Sig) := [(45, S45)]
def lt60 : List (Nat × LoopSig) := []
theorem k60 : (Code.loops c60).length = 0 := by kernel_rfl
def vt60 : VT :=
  (.ite (.ite (.un .not (.bin .eq (.var 0) (.n 4))) (.un .not (.bin .seq (.var 7) (.str ⟨#[]⟩))) (.t false))
   (.ret (.cons (.t false) .nil))
   (.need (.t true) (.pre 45 (.cons (.var 0) (.cons (.var 1) (.cons (.var 2) (.cons (.var 3) (.cons (.var 4) (.cons (.var 5) (.cons (.var 6) (.cons (.var 7) .nil)))))))))
   (.lt (.app 45 (.cons (.var 0) (.cons (.var 1) (.cons (.var 2) (.cons (.var 3) (.cons (.var 4) (.cons (.var 5) (.cons (.var 6) (.cons (.var 7) .nil)))))))) 0) 1
   (.need (.t true) (.ct (.un (.tag 110) (.var 8)) [(.sl 26 [i6, i6])] (.var 8))
   (.ite (.un (.tag 110) (.var 8))
    (.ret (.cons (.ite (.bin .eq (.var 2) (.n 0)) (.ite (.bin .eq (.var 3) (.n 0)) (.ite (.bin .eq (.var 4) (.n 0)) (.bin .eq (.var 5) (.n 0)) (.t false)) (.t false)) (.t false)) .nil))
    (.need (.t true) (.ct (.un (.tag 112) (.var 8)) [i6, i6, i6, i6] (.var 8))
    (.ite (.un (.tag 112) (.var 8))
     (.ret (.cons (.bin .eq (.un .len (.var 6)) (.n 0)) .nil))
     (.ret (.cons (.t false) .nil)))))))))
theorem e60 : (fnVT Try.prog (sgOf sg60) (ltOf lt60) S60 Try.f60 c60).slim (S60.ps.map fun p => p.2.length).sum [] = vt60 := by kernel_rfl
def S49 : Sig := ⟨[(false, [(.sl 5 [(.int .u8)])]), (false, [.clo])], [(false, [i6])], [], none⟩
noncomputable def c49 : Code := Try.f49.body.getD .skip
theorem b49 : Try.f49.body = some c49 := body_some (by kernel_rfl)
theorem n49 : (Try.f49.name == "runtime.NumGoroutine") = false := by kernel_rfl
def sg49 : List (FuncId × Sig) := [(20006, S20006)]
def L49_0 : LoopSig := ⟨14900, [],
   ⟨[(.c (.x (.sl 5 [(.int .u8)]) (.var 0))), (.c (.x .clo (.var 1))), .any, .any, (.c (.x i6 (.var 2))), .any, .any, (.c (.x i6 (.var 3))), (.c (.x i6 (.var 4))), .any, .any, .any, .any, .any, .any, .any, .any, .any, .any],
    []⟩,
   5, [2, 4], [9, 10, 5, 11, 12, 13, 14, 15, 16, 17, 4, 18, 8], [.ret, (.exit 0)], []⟩
def lt49 : List (Nat × LoopSig) := [(2, L49_0)]
theorem k49 : (Code.loops c49).length = 1 := by kernel_rfl
noncomputable def lb49_0 : Code := (Code.loops c49).getD 0 .skip
def rt49_0 : VT :=
  (.ite (.bin .lt (.var 4) (.var 3))
   (.need (.t true) (.c (.bin .le (.n 0) (.var 4)))
   (.need (.t true) (.c (.bin .lt (.var 4) (.un .len (.var 0))))
   (.need (.t true) (.pre 20006 (.cons (.var 1) (.cons (.sel 0 (.var 0) (.var 4)) .nil)))
   (.lt (.app 20006 (.cons (.var 1) (.cons (.sel 0 (.var 0) (.var 4)) .nil)) 0) 1
   (.ite (.var 5)
    (.ret (.cons (.n 0) (.cons (.var 4) (.cons (.var 4) .nil))))
    (.ret (.cons (.n (-1)) (.cons (.var 2) (.cons (.bin (.add .i64) (.var 4) (.n 1)) .nil)))))))))
   (.ret (.cons (.n 1) (.cons (.var 2) (.cons (.var 4) .nil)))))
theorem le49_0 : (loopVT Try.prog (sgOf sg49) (ltOf lt49) L49_0 lb49_0).slim L49_0.nv [] = rt49_0 := by kernel_rfl
theorem lf49_0 : (firstRegion lb49_0).bind (ltOf lt49) = some L49_0 := by kernel_rfl
theorem lk49_0 : (Code.loops lb49_0).length = 0 := by kernel_rfl
def vt49 : VT :=
  (.need (.t true) (.pre 14900 (.cons (.var 0) (.cons (.var 1) (.cons (.n 0) (.cons (.un .len (.var 0)) (.cons (.n 0) .nil))))))
  (.lt (.app 14900 (.cons (.var 0) (.cons (.var 1) (.cons (.n 0) (.cons (.un .len (.var 0)) (.cons (.n 0) .nil))))) 0) 3
  (.ite (.bin .eq (.var 2) (.n 0))
   (.ret (.cons (.var 3) .nil))
   (.ret (.cons (.n (-1)) .nil)))))
theorem e49 : (fnVT Try.prog (sgOf sg49) (ltOf lt49) S49 Try.f49 c49).slim (S49.ps.map fun p => p.2.length).sum [] = vt49 := by kernel_rfl
def S35 : Sig := ⟨[(false, [(.sl 5 [(.int .u8)])]), (false, [.clo])], [(false, [.bool])], [], none⟩
noncomputable def c35 : Code := Try.f35.body.getD .skip
theorem b35 : Try.f35.body = some c35 := body_some (by kernel_rfl)
theorem n35 : (Try.f35.name == "runtime.NumGoroutine") = false := by kernel_rfl
def sg35 : List (FuncId × Sig) := [(49, S49)]
def lt35 : List (Nat × LoopSig) := []
theorem k35 : (Code.loops c35).length = 0 := by kernel_rfl
def vt35 : VT :=
  (.need (.t true) (.pre 49 (.cons (.var 0) (.cons (.var 1) .nil)))
  (.lt (.app 49 (.cons (.var 0) (.cons (.var 1) .nil)) 0) 1
  (.ret (.cons (.bin .le (.n 0) (.var 2)) .nil))))
theorem e35 : (fnVT Try.prog (sgOf sg35) (ltOf lt35) S35 Try.f35 c35).slim (S35.ps.map fun p => p.2.length).sum [] = vt35 := by kernel_rfl
def S36 : Sig := ⟨[(false, [(.int .u8)])], [(false, [.bool])], [], none⟩
noncomputable def c36 : Code := Try.f36.body.getD .skip
theorem b36 : Try.f36.body = some c36 := body_some (by kernel_rfl)
theorem n36 : (Try.f36.name == "runtime.NumGoroutine") = false := by kernel_rfl
def sg36 : List (FuncId × Sig) := []
def lt36 : List (Nat × LoopSig) := []
theorem k36 : (Code.loops c36).length = 0 := by kernel_rfl
def vt36 : VT :=
  (.ret (.cons (.ite (.bin .lt (.var 0) (.n 32)) (.t true) (.bin .lt (.n 126) (.var 0))) .nil))
theorem e36 : (fnVT Try.prog (sgOf sg36) (ltOf lt36) S36 Try.f36 c36).slim (S36.ps.map fun p => p.2.length).sum [] = vt36 := by kernel_rfl
def T36 : FuncId → List D → List D := tabOf []
def fn36 (ρ : List D) : List D := vt36.val T36 ρ
theorem m36 : Meets Try.prog 36 S36 (fun _ => True) fn36 := meets_easy (sgl := sg36) (Φ := T36) mixed ((fun _ h => nomatch h)) Try.func36 b36 n36 k36 e36 (by kernel_rfl)
def S23 : Sig := ⟨[(false, [.str])], [(false, [.bool])], [], none⟩
noncomputable def c23 : Code := Try.f23.body.getD .skip
theorem b23 : Try.f23.body = some c23 := body_some (by kernel_rfl)
theorem n23 : (Try.f23.name == "runtime.NumGoroutine") = false := by kernel_rfl
def sg23 : List (FuncId × Sig) := [(35, S35)]
def lt23 : List (Nat × LoopSig) := []
theorem k23 : (Code.loops c23).length = 0 := by kernel_rfl
def vt23 : VT :=
  (.need (.t true) (.pre 35 (.cons (.un .bytes (.var 0)) (.cons (.clo 36 [] .nil) .nil)))
  (.lt (.app 35 (.cons (.un .bytes (.var 0)) (.cons (.clo 36 [] .nil) .nil)) 0) 1
  (.ret (.cons (.un .not (.var 1)) .nil))))
theorem e23 : (fnVT Try.prog (sgOf sg23) (ltOf lt23) S23 Try.f23 c23).slim (S23.ps.map fun p => p.2.length).sum [] = vt23 := by kernel_rfl
def S47 : Sig := ⟨[(true, [i6, i6, i6, i6, i6, i6, (.sl 26 [i6, i6]), .str])], [(false, [i6])], [], none⟩
noncomputable def c47 : Code := Try.f47.body.getD .skip
theorem b47 : Try.f47.body = some c47 := body_some (by kernel_rfl)
theorem n47 : (Try.f47.name == "runtime.NumGoroutine") = false := by kernel_rfl
def sg47 : List (FuncId × Sig) := [(44, S44), (60, S60), (45, S45), (89, S89), (97, S97), (23, S23)]
def lt47 : List (Nat × LoopSig) := []
theorem k47 : (Code.loops c47).length = 0 := by kernel_rfl
def vt47 : VT :=
  (.need (.t true) (.pre 44 (.cons (.var 0) (.cons (.var 1) (.cons (.var 2) (.cons (.var 3) (.cons (.var 4) (.cons (.var 5) (.cons (.var 6) (.cons (.var 7) .nil)))))))))
  (.lt (.app 44 (.cons (.var 0) (.cons (.var 1) (.cons (.var 2) (.cons (.var 3) (.cons (.var 4) (.cons (.var 5) (.cons (.var 6) (.cons (.var 7) .nil)))))))) 0) 1
  (.need (.var 8) (.pre 60 (.cons (.var 0) (.cons (.var 1) (.cons (.var 2) (.cons (.var 3) (.cons (.var 4) (.cons (.var 5) (.cons (.var 6) (.cons (.var 7) .nil)))))))))
  (.lt (.app 60 (.cons (.var 0) (.cons (.var 1) (.cons (.var 2) (.cons (.var 3) (.cons (.var 4) (.cons (.var 5) (.cons (.var 6) (.cons (.var 7) .nil)))))))) 0) 1
  (.ite (.ite (.ite (.un .not (.var 8)) (.t true) (.un .not (.var 9))) (.t true) (.bin .lt (.var 1) (.n 0)))
   (.ret (.cons (.n 1) .nil))
   (.need (.t true) (.pre 45 (.cons (.var 0) (.cons (.var 1) (.cons (.var 2) (.cons (.var 3) (.cons (.var 4) (.cons (.var 5) (.cons (.var 6) (.cons (.var 7) .nil)))))))))
   (.lt (.app 45 (.cons (.var 0) (.cons (.var 1) (.cons (.var 2) (.cons (.var 3) (.cons (.var 4) (.cons (.var 5) (.cons (.var 6) (.cons (.var 7) .nil)))))))) 0) 1
   (.need (.t true) (.c (.ite (.un (.tag 110) (.var 10)) (.t true) (.ite (.un (.tag 112) (.var 10)) (.t true) (.t false))))
   (.need (.t true) (.ct (.un (.tag 110) (.var 10)) [(.sl 26 [i6, i6])] (.var 10))
   (.need (.t true) (.pg (.un (.tag 110) (.var 10)) 89 (.cons (.psel 0 (.var 10)) .nil))
   (.need (.t true) (.ct (.un (.tag 112) (.var 10)) [i6, i6, i6, i6] (.var 10))
   (.need (.t true) (.pg (.un (.tag 112) (.var 10)) 97 (.cons (.psel 0 (.var 10)) (.cons (.psel 1 (.var 10)) (.cons (.psel 2 (.var 10)) (.cons (.psel 3 (.var 10)) .nil)))))
   (.ite (.un .not (.ite (.un (.tag 110) (.var 10)) (.app 89 (.cons (.psel 0 (.var 10)) .nil) 4) (.ite (.un (.tag 112) (.var 10)) (.app 97 (.cons (.psel 0 (.var 10)) (.cons (.psel 1 (.var 10)) (.cons (.psel 2 (.var 10)) (.cons (.psel 3 (.var 10)) .nil)))) 4) (.n 0))))
    (.ret (.cons (.n 3) .nil))
    (.need (.bin .eq (.var 0) (.n 4)) (.pre 23 (.cons (.var 7) .nil))
    (.lt (.app 23 (.cons (.var 7) .nil) 0) 1
    (.ite (.ite (.bin .eq (.var 0) (.n 4)) (.ite (.un .not (.var 11)) (.t true) (.bin .lt (.n 32) (.un .slen (.var 7)))) (.t false))
     (.ret (.cons (.n 7) .nil))
     (.ret (.cons (.n 0) .nil))))))))))))))))))
theorem e47 : (fnVT Try.prog (sgOf sg47) (ltOf lt47) S47 Try.f47 c47).slim (S47.ps.map fun p => p.2.length).sum [] = vt47 := by kernel_rfl
def S28 : Sig := ⟨[(true, [i6, i6, i6, i6, (.sl 70 [i6, i6, i6, i6, i6, i6, (.sl 26 [i6, i6]), .str])])], [(false, [i6])], [], none⟩
noncomputable def c28 : Code := Try.f28.body.getD .skip
theorem b28 : Try.f28.body = some c28 := body_some (by kernel_rfl)
theorem n28 : (Try.f28.name == "runtime.NumGoroutine") = false := by kernel_rfl
def sg28 : List (FuncId × Sig) := [(47, S47), (27, S27)]
def L28_0 : LoopSig := ⟨12800, [],
   ⟨[.any, .any, (.c (.x i6 (.var 0))), .any, .any, .any, .any, .any, .any, .any, .any, (.c (.x (.sl 70 [i6, i6, i6, i6, i6, i6, (.sl 26 [i6, i6]), .str]) (.var 1))), (.c (.x i6 (.var 2))), (.c (.x i6 (.var 3))), .any, .any, .any, .any, .any, .any, .any, .any, .any, .any, .any, .any, .any, .any, .any],
    []⟩,
   4, [0, 3], [14, 15, 16, 4, 17, 18, 5, 19, 20, 21, 2, 22, 13], [.ret, (.exit 0)], []⟩
def lt28 : List (Nat × LoopSig) := [(4, L28_0)]
theorem k28 : (Code.loops c28).length = 1 := by kernel_rfl
noncomputable def lb28_0 : Code := (Code.loops c28).getD 0 .skip
def rt28_0 : VT :=
  (.ite (.bin .lt (.var 3) (.var 2))
   (.need (.t true) (.c (.bin .le (.n 0) (.var 3)))
   (.need (.t true) (.c (.bin .lt (.var 3) (.un .len (.var 1))))
   (.need (.t true) (.pre 47 (.cons (.sel 0 (.var 1) (.var 3)) (.cons (.sel 1 (.var 1) (.var 3)) (.cons (.sel 2 (.var 1) (.var 3)) (.cons (.sel 3 (.var 1) (.var 3)) (.cons (.sel 4 (.var 1) (.var 3)) (.cons (.sel 5 (.var 1) (.var 3)) (.cons (.sel 6 (.var 1) (.var 3)) (.cons (.sel 7 (.var 1) (.var 3)) .nil)))))))))
   (.lt (.app 47 (.cons (.sel 0 (.var 1) (.var 3)) (.cons (.sel 1 (.var 1) (.var 3)) (.cons (.sel 2 (.var 1) (.var 3)) (.cons (.sel 3 (.var 1) (.var 3)) (.cons (.sel 4 (.var 1) (.var 3)) (.cons (.sel 5 (.var 1) (.var 3)) (.cons (.sel 6 (.var 1) (.var 3)) (.cons (.sel 7 (.var 1) (.var 3)) .nil)))))))) 0) 1
   (.ite (.un .not (.bin .eq (.var 4) (.n 0)))
    (.ret (.cons (.n 0) (.cons (.var 4) (.cons (.var 3) .nil))))
    (.ret (.cons (.n (-1)) (.cons (.var 0) (.cons (.bin (.add .i64) (.var 3) (.n 1)) .nil)))))))))
   (.ret (.cons (.n 1) (.cons (.var 0) (.cons (.var 3) .nil)))))
theorem le28_0 : (loopVT Try.prog (sgOf sg28) (ltOf lt28) L28_0 lb28_0).slim L28_0.nv [] = rt28_0 := by kernel_rfl
theorem lf28_0 : (firstRegion lb28_0).bind (ltOf lt28) = some L28_0 := by kernel_rfl
theorem lk28_0 : (Code.loops lb28_0).length = 0 := by kernel_rfl
def vt28 : VT :=
  (.ite (.bin .lt (.n 2048) (.un .len (.var 4)))
   (.ret (.cons (.n 2) .nil))
   (.need (.t true) (.pre 12800 (.cons (.n 0) (.cons (.var 4) (.cons (.un .len (.var 4)) (.cons (.n 0) .nil)))))
   (.lt (.app 12800 (.cons (.n 0) (.cons (.var 4) (.cons (.un .len (.var 4)) (.cons (.n 0) .nil)))) 0) 3
   (.ite (.bin .eq (.var 5) (.n 0))
    (.ret (.cons (.var 6) .nil))
    (.need (.t true) (.pre 27 (.cons (.var 4) .nil))
    (.lt (.app 27 (.cons (.var 4) .nil) 0) 4
    (.ite (.un .not (.ite (.bin .eq (.var 0) (.var 8)) (.ite (.bin .eq (.var 1) (.var 9)) (.ite (.bin .eq (.var 2) (.var 10)) (.bin .eq (.var 3) (.var 11)) (.t false)) (.t false)) (.t false)))
     (.ret (.cons (.n 13) .nil))
     (.ret (.cons (.n 0) .nil)))))))))
theorem e28 : (fnVT Try.prog (sgOf sg28) (ltOf lt28) S28 Try.f28 c28).slim (S28.ps.map fun p => p.2.length).sum [] = vt28 := by kernel_rfl
def S12 : Sig := ⟨[(true, [.str, .bool, (.sl 43 [.str, .str, i6, i6, i6, (.sl 116 [.str, i6])]), (.sl 73 [i6, i6, i6, i6, .str, i6, i6]), (.sl 105 [.str, i6])]), (true, [(.sl 35 [i6, i6, i6, i6]), (.sl 35 [i6, i6, i6, i6]), (.sl 24 [(.sl 26 [i6, i6])]), (.sl 35 [i6, i6, i6, i6]), i6, i6, i6, i6, i6, i6, (.sl 3 [i6])])], [(true, [i6, i6, i6, i6, (.sl 70 [i6, i6, i6, i6, i6, i6, (.sl 26 [i6, i6]), .str])]), (false, [i6])], [], none⟩
noncomputable def c12 : Code := Try.f12.body.getD .skip
theorem b12 : Try.f12.body = some c12 := body_some (by kernel_rfl)
theorem n12 : (Try.f12.name == "runtime.NumGoroutine") = false := by kernel_rfl
def sg12 : List (FuncId × Sig) := [(24, S24), (25, S25), (26, S26), (27, S27), (28, S28)]
def L12_0 : LoopSig := ⟨11200, [(2, some 4, 70), (3, some 4, 70)],
   ⟨[.any, .any, .any, (.c (.ptr 1 0)), .any, .any, (.c (.ptr 3 0)), .any, .any, .any, .any, .any, .any, .any, .any, .any, .any, .any, .any, .any, .any, .any, .any, .any, .any, .any, .any, .any, .any, .any, .any, .any, .any, .any, .any, .any, .any, .any, .any, .any, .any, .any, .any, .any, .any, .any, .any, .any, .any, .any, .any, .any, .any, .any, .any, .any, .any, (.c (.x (.sl 3 [i6]) (.var 0))), (.c (.x i6 (.var 1))), (.c (.x i6 (.var 2))), .any, .any, .any, .any, .any, .any, .any, .any, .any, .any, .any, .any, .any, .any, .any, .any, .any, .any, .any, .any, .any, .any, .any, .any, .any, .any, .any, .any, .any, .any, .any, .any, .any, .any, .any, .any, .any, .any, .any, .any, .any, .any, .any, .any, .any, .any, .any, .any, .any, .any, .any, .any, .any, .any, .any, .any, .any, .any, .any, .any, .any, .any, .any, .any, .any, .any, .any, .any, .any, .any, .any, .any, .any, .any, .any, .any, .any, .any, .any, .any, .any, .any, .any, .any, .any, .any, .any, .any, .any, .any, .any, .any, .any, .any, .any, .any, .any, .any, .any, .any, .any, .any, .any, .any, .any, .any, .any, .any, .any, .any, .any, .any, .any, .any, .any, .any, .any, .any, .any, .any, .any, .any, .any, .any, .any, .any, .any],
    [none, some ⟨(.t true), (.box 56 [(.x (.sl 35 [i6, i6, i6, i6]) (.var 3)), (.x (.sl 35 [i6, i6, i6, i6]) (.var 4)), (.x (.sl 24 [(.sl 26 [i6, i6])]) (.var 5)), (.x (.sl 35 [i6, i6, i6, i6]) (.var 6)), (.x i6 (.var 7)), (.x i6 (.var 8)), (.x i6 (.var 9)), (.x i6 (.var 10)), (.x i6 (.var 11)), (.x i6 (.var 12)), (.x (.sl 3 [i6]) (.var 13))] false)⟩, none, some ⟨(.t true), (.box 51 [(.x i6 (.var 14)), (.x i6 (.var 15)), (.x i6 (.var 16)), (.x i6 (.var 17)), (.row 5 1)] false)⟩, none, some ⟨(.t true), (.row 70 [i6, i6, i6, i6, i6, i6, (.sl 26 [i6, i6]), .str] (.var 18) 1 false)⟩]⟩,
   19, [2, 18], [60, 61, 62, 8, 63, 64, 65, 66, 67, 68, 69, 70, 71, 72, 73, 74, 75, 59], [(.exit 0)], [18]⟩
def L12_1 : LoopSig := ⟨11201, [],
   ⟨[.any, .any, .any, (.c (.ptr 1 0)), .any, .any, (.c (.ptr 3 0)), .any, .any, .any, .any, .any, .any, .any, .any, .any, .any, .any, .any, .any, .any, .any, .any, .any, .any, .any, .any, .any, .any, .any, .any, .any, .any, .any, .any, .any, .any, .any, .any, .any, .any, .any, .any, .any, .any, .any, .any, .any, .any, .any, .any, .any, .any, .any, .any, .any, .any, .any, .any, .any, .any, .any, .any, .any, .any, .any, .any, .any, .any, .any, .any, .any, .any, .any, .any, .any, .any, .any, (.c (.x i6 (.var 0))), (.c (.x i6 (.var 1))), .any, .any, .any, .any, .any, .any, .any, .any, .any, .any, .any, .any, .any, .any, .any, .any, .any, .any, .any, .any, .any, .any, .any, .any, .any, .any, .any, .any, .any, .any, .any, .any, .any, .any, .any, .any, .any, .any, .any, .any, .any, .any, .any, .any, .any, .any, .any, .any, .any, .any, .any, .any, .any, .any, .any, .any, .any, .any, .any, .any, .any, .any, .any, .any, .any, .any, .any, .any, .any, .any, .any, .any, .any, .any, .any, .any, .any, .any, .any, .any, .any, .any, .any, .any, .any, .any, .any, .any, .any, .any, .any, .any, .any, .any, .any, .any, .any, .any, .any, .any, .any, .any, .any, .any, .any, .any, .any],
    [none, some ⟨(.t true), (.box 56 [(.x (.sl 35 [i6, i6, i6, i6]) (.var 2)), (.x (.sl 35 [i6, i6, i6, i6]) (.var 3)), (.x (.sl 24 [(.sl 26 [i6, i6])]) (.var 4)), (.x (.sl 35 [i6, i6, i6, i6]) (.var 5)), (.x i6 (.var 6)), (.x i6 (.var 7)), (.x i6 (.var 8)), (.x i6 (.var 9)), (.x i6 (.var 10)), (.x i6 (.var 11)), (.x (.sl 3 [i6]) (.var 12))] false)⟩, none, some ⟨(.t true), (.box 51 [(.x i6 (.var 13)), (.x i6 (.var 14)), (.x i6 (.var 15)), (.x i6 (.var 16)), (.row 5 1)] false)⟩, none, some ⟨(.t true), (.row 70 [i6, i6, i6, i6, i6, i6, (.sl 26 [i6, i6]), .str] (.var 17) 1 false)⟩]⟩,
   18, [1, 17], [80, 81, 9, 82, 83, 84, 85, 86, 87, 88, 89, 90, 91, 92, 93, 94, 95, 79], [(.exit 2)], [17]⟩
def L12_2 : LoopSig := ⟨11202, [],
   ⟨[.any, .any, .any, (.c (.ptr 1 0)), .any, .any, (.c (.ptr 3 0)), .any, .any, .any, .any, .any, .any, .any, .any, .any, .any, .any, .any, .any, .any, .any, .any, .any, .any, .any, .any, .any, .any, .any, .any, .any, .any, .any, .any, .any, .any, .any, .any, .any, .any, .any, .any, .any, .any, .any, .any, .any, .any, .any, .any, .any, .any, .any, .any, .any, .any, .any, .any, .any, .any, .any, .any, .any, .any, .any, .any, .any, .any, .any, .any, .any, .any, .any, .any, .any, .any, .any, .any, .any, .any, .any, .any, .any, .any, .any, .any, .any, .any, .any, .any, .any, .any, .any, .any, .any, .any, .any, (.c (.x i6 (.var 0))), (.c (.x i6 (.var 1))), .any, .any, .any, .any, .any, .any, .any, .any, .any, .any, .any, .any, .any, .any, .any, .any, .any, .any, .any, .any, .any, .any, .any, .any, .any, .any, .any, .any, .any, .any, .any, .any, .any, .any, .any, .any, .any, .any, .any, .any, .any, .any, .any, .any, .any, .any, .any, .any, .any, .any, .any, .any, .any, .any, .any, .any, .any, .any, .any, .any, .any, .any, .any, .any, .any, .any, .any, .any, .any, .any, .any, .any, .any, .any, .any, .any, .any, .any, .any, .any, .any, .any, .any, .any, .any, .any, .any],
    [none, some ⟨(.t true), (.box 56 [(.x (.sl 35 [i6, i6, i6, i6]) (.var 2)), (.x (.sl 35 [i6, i6, i6, i6]) (.var 3)), (.x (.sl 24 [(.sl 26 [i6, i6])]) (.var 4)), (.x (.sl 35 [i6, i6, i6, i6]) (.var 5)), (.x i6 (.var 6)), (.x i6 (.var 7)), (.x i6 (.var 8)), (.x i6 (.var 9)), (.x i6 (.var 10)), (.x i6 (.var 11)), (.x (.sl 3 [i6]) (.var 12))] false)⟩, none, some ⟨(.t true), (.box 51 [(.x i6 (.var 13)), (.x i6 (.var 14)), (.x i6 (.var 15)), (.x i6 (.var 16)), (.row 5 1)] false)⟩, none, some ⟨(.t true), (.row 70 [i6, i6, i6, i6, i6, i6, (.sl 26 [i6, i6]), .str] (.var 17) 1 false)⟩]⟩,
   18, [1, 17], [100, 101, 10, 102, 103, 104, 105, 106, 107, 108, 109, 110, 111, 112, 113, 114, 99], [(.exit 4)], [17]⟩
def L12_3 : LoopSig := ⟨11203, [],
   ⟨[.any, .any, .any, (.c (.ptr 1 0)), .any, .any, (.c (.ptr 3 0)), .any, .any, .any, .any, .any, .any, .any, .any, .any, .any, .any, .any, .any, .any, .any, .any, .any, .any, .any, .any, .any, .any, .any, .any, .any, .any, .any, .any, .any, .any, .any, .any, .any, .any, .any, .any, .any, .any, .any, .any, .any, .any, .any, .any, .any, .any, .any, .any, .any, .any, .any, .any, .any, .any, .any, .any, .any, .any, .any, .any, .any, .any, .any, .any, .any, .any, .any, .any, .any, .any, .any, .any, .any, .any, .any, .any, .any, .any, .any, .any, .any, .any, .any, .any, .any, .any, .any, .any, .any, .any, .any, .any, .any, .any, .any, .any, .any, .any, .any, .any, .any, .any, .any, .any, .any, .any, .any, .any, .any, (.c (.x (.sl 43 [.str, .str, i6, i6, i6, (.sl 116 [.str, i6])]) (.var 0))), (.c (.x i6 (.var 1))), (.c (.x i6 (.var 2))), .any, .any, .any, .any, .any, .any, .any, .any, .any, .any, .any, .any, .any, .any, .any, .any, .any, .any, .any, .any, .any, .any, .any, .any, .any, .any, .any, .any, .any, .any, .any, .any, .any, .any, .any, .any, .any, .any, .any, .any, .any, .any, .any, .any, .any, .any, .any, .any, .any, .any, .any, .any, .any, .any, .any, .any, .any, .any, .any, .any, .any, .any, .any, .any, .any, .any, .any, .any],
    [none, some ⟨(.t true), (.box 56 [(.x (.sl 35 [i6, i6, i6, i6]) (.var 3)), (.x (.sl 35 [i6, i6, i6, i6]) (.var 4)), (.x (.sl 24 [(.sl 26 [i6, i6])]) (.var 5)), (.x (.sl 35 [i6, i6, i6, i6]) (.var 6)), (.x i6 (.var 7)), (.x i6 (.var 8)), (.x i6 (.var 9)), (.x i6 (.var 10)), (.x i6 (.var 11)), (.x i6 (.var 12)), (.x (.sl 3 [i6]) (.var 13))] false)⟩, none, some ⟨(.t true), (.box 51 [(.x i6 (.var 14)), (.x i6 (.var 15)), (.x i6 (.var 16)), (.x i6 (.var 17)), (.row 5 1)] false)⟩, none, some ⟨(.t true), (.row 70 [i6, i6, i6, i6, i6, i6, (.sl 26 [i6, i6]), .str] (.var 18) 1 false)⟩]⟩,
   19, [2, 18], [119, 120, 121, 122, 12, 11, 123, 124, 125, 126, 127, 128, 129, 130, 131, 132, 133, 134, 135, 136, 137, 138, 139, 140, 118], [(.exit 6)], [18]⟩
def L12_4 : LoopSig := ⟨11204, [],
   ⟨[.any, .any, .any, (.c (.ptr 1 0)), .any, .any, (.c (.ptr 3 0)), .any, .any, .any, .any, .any, .any, .any, .any, .any, .any, .any, .any, .any, .any, .any, .any, .any, .any, .any, .any, .any, .any, .any, .any, .any, .any, .any, .any, .any, .any, .any, .any, .any, .any, .any, .any, .any, .any, .any, .any, .any, .any, .any, .any, .any, .any, .any, .any, .any, .any, .any, .any, .any, .any, .any, .any, .any, .any, .any, .any, .any, .any, .any, .any, .any, .any, .any, .any, .any, .any, .any, .any, .any, .any, .any, .any, .any, .any, .any, .any, .any, .any, .any, .any, .any, .any, .any, .any, .any, .any, .any, .any, .any, .any, .any, .any, .any, .any, .any, .any, .any, .any, .any, .any, .any, .any, .any, .any, .any, .any, .any, .any, .any, .any, .any, .any, .any, .any, .any, .any, .any, .any, .any, .any, .any, .any, .any, .any, .any, .any, .any, .any, .any, .any, .any, (.c (.x (.sl 73 [i6, i6, i6, i6, .str, i6, i6]) (.var 0))), (.c (.x i6 (.var 1))), (.c (.x i6 (.var 2))), .any, .any, .any, .any, .any, .any, .any, .any, .any, .any, .any, .any, .any, .any, .any, .any, .any, .any, .any, .any, .any, .any, .any, .any, .any, .any, .any, .any, .any, .any, .any, .any, .any, .any, .any, .any, .any, .any, .any, .any, .any, .any],
    [none, some ⟨(.t true), (.box 56 [(.x (.sl 35 [i6, i6, i6, i6]) (.var 3)), (.x (.sl 35 [i6, i6, i6, i6]) (.var 4)), (.x (.sl 24 [(.sl 26 [i6, i6])]) (.var 5)), (.x (.sl 35 [i6, i6, i6, i6]) (.var 6)), (.x i6 (.var 7)), (.x i6 (.var 8)), (.x i6 (.var 9)), (.x i6 (.var 10)), (.x i6 (.var 11)), (.x i6 (.var 12)), (.x (.sl 3 [i6]) (.var 13))] false)⟩, none, some ⟨(.t true), (.box 51 [(.x i6 (.var 14)), (.x i6 (.var 15)), (.x i6 (.var 16)), (.x i6 (.var 17)), (.row 5 1)] false)⟩, none, some ⟨(.t true), (.row 70 [i6, i6, i6, i6, i6, i6, (.sl 26 [i6, i6]), .str] (.var 18) 1 false)⟩]⟩,
   19, [2, 18], [145, 146, 147, 148, 14, 13, 149, 150, 151, 152, 153, 154, 155, 156, 157, 158, 159, 160, 161, 162, 163, 164, 165, 166, 167, 168, 169, 170, 171, 172, 173, 174, 175, 144], [(.exit 8)], [18]⟩
def lt12 : List (Nat × LoopSig) := [(5, L12_0), (10, L12_1), (15, L12_2), (20, L12_3), (26, L12_4)]
theorem k12 : (Code.loops c12).length = 5 := by kernel_rfl
noncomputable def lb12_0 : Code := (Code.loops c12).getD 0 .skip
noncomputable def lb12_1 : Code := (Code.loops c12).getD 1 .skip
noncomputable def lb12_2 : Code := (Code.loops c12).getD 2 .skip
noncomputable def lb12_3 : Code := (Code.loops c12).getD 3 .skip
noncomputable def lb12_4 : Code := (Code.loops c12).getD 4 .skip
def rt12_0 : VT :=
  (.ite (.bin .lt (.var 2) (.var 1))
   (.need (.t true) (.c (.bin .le (.n 0) (.var 2)))
   (.need (.t true) (.c (.bin .lt (.var 2) (.un .len (.var 0))))
   (.need (.t true) (.c (.bin .le (.n 0) (.sel 0 (.var 0) (.var 2))))
   (.need (.t true) (.c (.bin .lt (.sel 0 (.var 0) (.var 2)) (.un .len (.var 4))))
   (.need (.t true) (.c (.bin .le (.un .len (.bin .cat (.var 18) (.lcons (.cons (.n 1) (.cons (.sel 0 (.var 0) (.var 2)) (.cons (.sel 0 (.var 4) (.sel 0 (.var 0) (.var 2))) (.cons (.sel 1 (.var 4) (.sel 0 (.var 0) (.var 2))) (.cons (.sel 2 (.var 4) (.sel 0 (.var 0) (.var 2))) (.cons (.sel 3 (.var 4) (.sel 0 (.var 0) (.var 2))) (.cons .lnil (.cons (.str ⟨#[]⟩) .nil)))))))) .lnil))) (.n 1599289640401)))
   (.ret (.cons (.n (-1)) (.cons (.bin (.add .i64) (.var 2) (.n 1)) (.cons (.bin .cat (.var 18) (.lcons (.cons (.n 1) (.cons (.sel 0 (.var 0) (.var 2)) (.cons (.sel 0 (.var 4) (.sel 0 (.var 0) (.var 2))) (.cons (.sel 1 (.var 4) (.sel 0 (.var 0) (.var 2))) (.cons (.sel 2 (.var 4) (.sel 0 (.var 0) (.var 2))) (.cons (.sel 3 (.var 4) (.sel 0 (.var 0) (.var 2))) (.cons .lnil (.cons (.str ⟨#[]⟩) .nil)))))))) .lnil)) .nil)))))))))
   (.ret (.cons (.n 0) (.cons (.var 2) (.cons (.var 18) .nil)))))
theorem le12_0 : (loopVT Try.prog (sgOf sg12) (ltOf lt12) L12_0 lb12_0).slim L12_0.nv [] = rt12_0 := by kernel_rfl
theorem lf12_0 : (firstRegion lb12_0).bind (ltOf lt12) = some L12_0 := by kernel_rfl
theorem lk12_0 : (Code.loops lb12_0).length = 0 := by kernel_rfl
def rt12_1 : VT :=
  (.ite (.bin .lt (.var 1) (.var 0))
   (.need (.t true) (.c (.bin .le (.n 0) (.var 1)))
   (.need (.t true) (.c (.bin .lt (.var 1) (.un .len (.var 4))))
   (.need (.t true) (.pre 26 (.cons (.sel 0 (.var 4) (.var 1)) .nil))
   (.lt (.app 26 (.cons (.sel 0 (.var 4) (.var 1)) .nil) 0) 1
   (.need (.t true) (.c (.bin .le (.un .len (.bin .cat (.var 17) (.lcons (.cons (.n 3) (.cons (.var 1) (.cons (.n 0) (.cons (.n 0) (.cons (.n 0) (.cons (.n 0) (.cons (.var 18) (.cons (.str ⟨#[]⟩) .nil)))))))) .lnil))) (.n 1599289640401)))
   (.ret (.cons (.n (-1)) (.cons (.bin (.add .i64) (.var 1) (.n 1)) (.cons (.bin .cat (.var 17) (.lcons (.cons (.n 3) (.cons (.var 1) (.cons (.n 0) (.cons (.n 0) (.cons (.n 0) (.cons (.n 0) (.cons (.var 18) (.cons (.str ⟨#[]⟩) .nil)))))))) .lnil)) .nil)))))))))
   (.ret (.cons (.n 0) (.cons (.var 1) (.cons (.var 17) .nil)))))
theorem le12_1 : (loopVT Try.prog (sgOf sg12) (ltOf lt12) L12_1 lb12_1).slim L12_1.nv [] = rt12_1 := by kernel_rfl
theorem lf12_1 : (firstRegion lb12_1).bind (ltOf lt12) = some L12_1 := by kernel_rfl
theorem lk12_1 : (Code.loops lb12_1).length = 0 := by kernel_rfl
def rt12_2 : VT :=
  (.ite (.bin .lt (.var 1) (.var 0))
   (.need (.t true) (.c (.bin .le (.n 0) (.var 1)))
   (.need (.t true) (.c (.bin .lt (.var 1) (.un .len (.var 2))))
   (.need (.t true) (.c (.bin .le (.un .len (.bin .cat (.var 17) (.lcons (.cons (.n 2) (.cons (.var 1) (.cons (.sel 0 (.var 2) (.var 1)) (.cons (.sel 1 (.var 2) (.var 1)) (.cons (.sel 2 (.var 2) (.var 1)) (.cons (.sel 3 (.var 2) (.var 1)) (.cons .lnil (.cons (.str ⟨#[]⟩) .nil)))))))) .lnil))) (.n 1599289640401)))
   (.ret (.cons (.n (-1)) (.cons (.bin (.add .i64) (.var 1) (.n 1)) (.cons (.bin .cat (.var 17) (.lcons (.cons (.n 2) (.cons (.var 1) (.cons (.sel 0 (.var 2) (.var 1)) (.cons (.sel 1 (.var 2) (.var 1)) (.cons (.sel 2 (.var 2) (.var 1)) (.cons (.sel 3 (.var 2) (.var 1)) (.cons .lnil (.cons (.str ⟨#[]⟩) .nil)))))))) .lnil)) .nil)))))))
   (.ret (.cons (.n 0) (.cons (.var 1) (.cons (.var 17) .nil)))))
theorem le12_2 : (loopVT Try.prog (sgOf sg12) (ltOf lt12) L12_2 lb12_2).slim L12_2.nv [] = rt12_2 := by kernel_rfl
theorem lf12_2 : (firstRegion lb12_2).bind (ltOf lt12) = some L12_2 := by kernel_rfl
theorem lk12_2 : (Code.loops lb12_2).length = 0 := by kernel_rfl
def rt12_3 : VT :=
  (.ite (.bin .lt (.var 2) (.var 1))
   (.need (.t true) (.c (.bin .le (.n 0) (.var 2)))
   (.need (.t true) (.c (.bin .lt (.var 2) (.un .len (.var 0))))
   (.ite (.un .not (.bin .seq (.sel 1 (.var 0) (.var 2)) (.str ⟨#[]⟩)))
    (.need (.t true) (.c (.bin .lt (.var 2) (.un .len (.var 3))))
    (.need (.t true) (.c (.bin .le (.un .len (.bin .cat (.var 18) (.lcons (.cons (.n 4) (.cons (.var 2) (.cons (.sel 0 (.var 3) (.var 2)) (.cons (.sel 1 (.var 3) (.var 2)) (.cons (.sel 2 (.var 3) (.var 2)) (.cons (.sel 3 (.var 3) (.var 2)) (.cons .lnil (.cons (.sel 1 (.var 0) (.var 2)) .nil)))))))) .lnil))) (.n 1599289640401)))
    (.ret (.cons (.n (-1)) (.cons (.bin (.add .i64) (.var 2) (.n 1)) (.cons (.bin .cat (.var 18) (.lcons (.cons (.n 4) (.cons (.var 2) (.cons (.sel 0 (.var 3) (.var 2)) (.cons (.sel 1 (.var 3) (.var 2)) (.cons (.sel 2 (.var 3) (.var 2)) (.cons (.sel 3 (.var 3) (.var 2)) (.cons .lnil (.cons (.sel 1 (.var 0) (.var 2)) .nil)))))))) .lnil)) .nil))))))
    (.ret (.cons (.n (-1)) (.cons (.bin (.add .i64) (.var 2) (.n 1)) (.cons (.var 18) .nil)))))))
   (.ret (.cons (.n 0) (.cons (.var 2) (.cons (.var 18) .nil)))))
theorem le12_3 : (loopVT Try.prog (sgOf sg12) (ltOf lt12) L12_3 lb12_3).slim L12_3.nv [] = rt12_3 := by kernel_rfl
theorem lf12_3 : (firstRegion lb12_3).bind (ltOf lt12) = some L12_3 := by kernel_rfl
theorem lk12_3 : (Code.loops lb12_3).length = 0 := by kernel_rfl
def rt12_4 : VT :=
  (.ite (.bin .lt (.var 2) (.var 1))
   (.need (.t true) (.c (.bin .le (.n 0) (.var 2)))
   (.need (.t true) (.c (.bin .lt (.var 2) (.un .len (.var 0))))
   (.need (.un .not (.bin .seq (.sel 4 (.var 0) (.var 2)) (.str ⟨#[]⟩))) (.c (.bin .lt (.var 2) (.un .len (.var 6))))
   (.ite (.ite (.un .not (.bin .seq (.sel 4 (.var 0) (.var 2)) (.str ⟨#[]⟩))) (.un .not (.ite (.bin .eq (.sel 0 (.var 6) (.var 2)) (.n 0)) (.ite (.bin .eq (.sel 1 (.var 6) (.var 2)) (.n 0)) (.ite (.bin .eq (.sel 2 (.var 6) (.var 2)) (.n 0)) (.bin .eq (.sel 3 (.var 6) (.var 2)) (.n 0)) (.t false)) (.t false)) (.t false))) (.t false))
    (.need (.t true) (.c (.bin .lt (.var 2) (.un .len (.var 6))))
    (.need (.t true) (.c (.bin .le (.un .len (.bin .cat (.var 18) (.lcons (.cons (.n 4) (.cons (.var 2) (.cons (.sel 0 (.var 6) (.var 2)) (.cons (.sel 1 (.var 6) (.var 2)) (.cons (.sel 2 (.var 6) (.var 2)) (.cons (.sel 3 (.var 6) (.var 2)) (.cons .lnil (.cons (.sel 4 (.var 0) (.var 2)) .nil)))))))) .lnil))) (.n 1599289640401)))
    (.ret (.cons (.n (-1)) (.cons (.bin (.add .i64) (.var 2) (.n 1)) (.cons (.bin .cat (.var 18) (.lcons (.cons (.n 4) (.cons (.var 2) (.cons (.sel 0 (.var 6) (.var 2)) (.cons (.sel 1 (.var 6) (.var 2)) (.cons (.sel 2 (.var 6) (.var 2)) (.cons (.sel 3 (.var 6) (.var 2)) (.cons .lnil (.cons (.sel 4 (.var 0) (.var 2)) .nil)))))))) .lnil)) .nil))))))
    (.ret (.cons (.n (-1)) (.cons (.bin (.add .i64) (.var 2) (.n 1)) (.cons (.var 18) .nil))))))))
   (.ret (.cons (.n 0) (.cons (.var 2) (.cons (.var 18) .nil)))))
theorem le12_4 : (loopVT Try.prog (sgOf sg12) (ltOf lt12) L12_4 lb12_4).slim L12_4.nv [] = rt12_4 := by kernel_rfl
theorem lf12_4 : (firstRegion lb12_4).bind (ltOf lt12) = some L12_4 := by kernel_rfl
theorem lk12_4 : (Code.loops lb12_4).length = 0 := by kernel_rfl
def vt12 : VT :=
  (.need (.t true) (.pre 24 (.cons (.var 0) (.cons (.var 1) (.cons (.var 2) (.cons (.var 3) (.cons (.var 4) .nil))))))
  (.lt (.app 24 (.cons (.var 0) (.cons (.var 1) (.cons (.var 2) (.cons (.var 3) (.cons (.var 4) .nil))))) 0) 1
  (.ite (.ite (.ite (.ite (.ite (.un .not (.bin .eq (.var 16) (.n 0))) (.t true) (.un .not (.bin .eq (.un .len (.var 5)) (.un .len (.var 2))))) (.t true) (.un .not (.bin .eq (.un .len (.var 6)) (.un .len (.var 4))))) (.t true) (.un .not (.bin .eq (.un .len (.var 7)) (.un .len (.var 3))))) (.t true) (.un .not (.bin .eq (.un .len (.var 8)) (.un .len (.var 3)))))
   (.ret (.cons (.n 0) (.cons (.n 0) (.cons (.n 0) (.cons (.n 0) (.cons .lnil (.cons (.n 1) .nil)))))))
   (.need (.t true) (.pre 25 (.cons (.var 0) (.cons (.var 1) (.cons (.var 2) (.cons (.var 3) (.cons (.var 4) .nil))))))
   (.lt (.app 25 (.cons (.var 0) (.cons (.var 1) (.cons (.var 2) (.cons (.var 3) (.cons (.var 4) .nil))))) 0) 1
   (.need (.t true) (.pre 11200 (.cons (.var 17) (.cons (.un .len (.var 17)) (.cons (.n 0) (.cons (.var 5) (.cons (.var 6) (.cons (.var 7) (.cons (.var 8) (.cons (.var 9) (.cons (.var 10) (.cons (.var 11) (.cons (.var 12) (.cons (.var 13) (.cons (.var 14) (.cons (.var 15) (.cons (.n 0) (.cons (.n 0) (.cons (.n 0) (.cons (.n 0) (.cons .lnil .nil))))))))))))))))))))
   (.lt (.app 11200 (.cons (.var 17) (.cons (.un .len (.var 17)) (.cons (.n 0) (.cons (.var 5) (.cons (.var 6) (.cons (.var 7) (.cons (.var 8) (.cons (.var 9) (.cons (.var 10) (.cons (.var 11) (.cons (.var 12) (.cons (.var 13) (.cons (.var 14) (.cons (.var 15) (.cons (.n 0) (.cons (.n 0) (.cons (.n 0) (.cons (.n 0) (.cons .lnil .nil))))))))))))))))))) 0) 3
   (.need (.t true) (.pre 11201 (.cons (.un .len (.var 3)) (.cons (.n 0) (.cons (.var 5) (.cons (.var 6) (.cons (.var 7) (.cons (.var 8) (.cons (.var 9) (.cons (.var 10) (.cons (.var 11) (.cons (.var 12) (.cons (.var 13) (.cons (.var 14) (.cons (.var 15) (.cons (.n 0) (.cons (.n 0) (.cons (.n 0) (.cons (.n 0) (.cons (.var 20) .nil)))))))))))))))))))
   (.lt (.app 11201 (.cons (.un .len (.var 3)) (.cons (.n 0) (.cons (.var 5) (.cons (.var 6) (.cons (.var 7) (.cons (.var 8) (.cons (.var 9) (.cons (.var 10) (.cons (.var 11) (.cons (.var 12) (.cons (.var 13) (.cons (.var 14) (.cons (.var 15) (.cons (.n 0) (.cons (.n 0) (.cons (.n 0) (.cons (.n 0) (.cons (.var 20) .nil)))))))))))))))))) 0) 3
   (.need (.t true) (.pre 11202 (.cons (.un .len (.var 2)) (.cons (.n 0) (.cons (.var 5) (.cons (.var 6) (.cons (.var 7) (.cons (.var 8) (.cons (.var 9) (.cons (.var 10) (.cons (.var 11) (.cons (.var 12) (.cons (.var 13) (.cons (.var 14) (.cons (.var 15) (.cons (.n 0) (.cons (.n 0) (.cons (.n 0) (.cons (.n 0) (.cons (.var 23) .nil)))))))))))))))))))
   (.lt (.app 11202 (.cons (.un .len (.var 2)) (.cons (.n 0) (.cons (.var 5) (.cons (.var 6) (.cons (.var 7) (.cons (.var 8) (.cons (.var 9) (.cons (.var 10) (.cons (.var 11) (.cons (.var 12) (.cons (.var 13) (.cons (.var 14) (.cons (.var 15) (.cons (.n 0) (.cons (.n 0) (.cons (.n 0) (.cons (.n 0) (.cons (.var 23) .nil)))))))))))))))))) 0) 3
   (.need (.t true) (.pre 11203 (.cons (.var 2) (.cons (.un .len (.var 2)) (.cons (.n 0) (.cons (.var 5) (.cons (.var 6) (.cons (.var 7) (.cons (.var 8) (.cons (.var 9) (.cons (.var 10) (.cons (.var 11) (.cons (.var 12) (.cons (.var 13) (.cons (.var 14) (.cons (.var 15) (.cons (.n 0) (.cons (.n 0) (.cons (.n 0) (.cons (.n 0) (.cons (.var 26) .nil))))))))))))))))))))
   (.lt (.app 11203 (.cons (.var 2) (.cons (.un .len (.var 2)) (.cons (.n 0) (.cons (.var 5) (.cons (.var 6) (.cons (.var 7) (.cons (.var 8) (.cons (.var 9) (.cons (.var 10) (.cons (.var 11) (.cons (.var 12) (.cons (.var 13) (.cons (.var 14) (.cons (.var 15) (.cons (.n 0) (.cons (.n 0) (.cons (.n 0) (.cons (.n 0) (.cons (.var 26) .nil))))))))))))))))))) 0) 3
   (.need (.t true) (.pre 11204 (.cons (.var 3) (.cons (.un .len (.var 3)) (.cons (.n 0) (.cons (.var 5) (.cons (.var 6) (.cons (.var 7) (.cons (.var 8) (.cons (.var 9) (.cons (.var 10) (.cons (.var 11) (.cons (.var 12) (.cons (.var 13) (.cons (.var 14) (.cons (.var 15) (.cons (.n 0) (.cons (.n 0) (.cons (.n 0) (.cons (.n 0) (.cons (.var 29) .nil))))))))))))))))))))
   (.lt (.app 11204 (.cons (.var 3) (.cons (.un .len (.var 3)) (.cons (.n 0) (.cons (.var 5) (.cons (.var 6) (.cons (.var 7) (.cons (.var 8) (.cons (.var 9) (.cons (.var 10) (.cons (.var 11) (.cons (.var 12) (.cons (.var 13) (.cons (.var 14) (.cons (.var 15) (.cons (.n 0) (.cons (.n 0) (.cons (.n 0) (.cons (.n 0) (.cons (.var 29) .nil))))))))))))))))))) 0) 3
   (.need (.t true) (.pre 27 (.cons (.var 32) .nil))
   (.lt (.app 27 (.cons (.var 32) .nil) 0) 4
   (.need (.t true) (.pre 28 (.cons (.var 33) (.cons (.var 34) (.cons (.var 35) (.cons (.var 36) (.cons (.var 32) .nil))))))
   (.lt (.app 28 (.cons (.var 33) (.cons (.var 34) (.cons (.var 35) (.cons (.var 36) (.cons (.var 32) .nil))))) 0) 1
   (.ite (.un .not (.bin .eq (.var 37) (.n 0)))
    (.ret (.cons (.n 0) (.cons (.n 0) (.cons (.n 0) (.cons (.n 0) (.cons .lnil (.cons (.var 37) .nil)))))))
    (.ret (.cons (.var 33) (.cons (.var 34) (.cons (.var 35) (.cons (.var 36) (.cons (.var 32) (.cons (.n 0) .nil)))))))))))))))))))))))))))
theorem e12 : (fnVT Try.prog (sgOf sg12) (ltOf lt12) S12 Try.f12 c12).slim (S12.ps.map fun p => p.2.length).sum [] = vt12 := by kernel_rfl
def S4 : Sig := ⟨[], [(false, [.bool])], [], none⟩
noncomputable def c4 : Code := Try.f4.body.getD .skip
theorem b4 : Try.f4.body = some c4 := body_some (by kernel_rfl)
theorem n4 : (Try.f4.name == "runtime.NumGoroutine") = false := by kernel_rfl
def sg4 : List (FuncId × Sig) := [(12, S12)]
def lt4 : List (Nat × LoopSig) := []
theorem k4 : (Code.loops c4).length = 0 := by kernel_rfl
def vt4 : VT :=
  (.need (.t true) (.pre 12 (.cons (.str ⟨#[103]⟩) (.cons (.t false) (.cons (.lcons (.cons (.str ⟨#[97]⟩) (.cons (.str ⟨#[97]⟩) (.cons (.n 20000) (.cons (.n 10000) (.cons (.n (-1)) (.cons .lnil .nil)))))) .lnil) (.cons .lnil (.cons .lnil (.cons (.lcons (.cons (.n 0) (.cons (.n 0) (.cons (.n 20000) (.cons (.n 10000) .nil)))) .lnil) (.cons .lnil (.cons .lnil (.cons .lnil (.cons (.n 0) (.cons (.n 0) (.cons (.n 0) (.cons (.n 0) (.cons (.n 0) (.cons (.n 0) (.cons .lnil .nil)))))))))))))))))
  (.lt (.app 12 (.cons (.str ⟨#[103]⟩) (.cons (.t false) (.cons (.lcons (.cons (.str ⟨#[97]⟩) (.cons (.str ⟨#[97]⟩) (.cons (.n 20000) (.cons (.n 10000) (.cons (.n (-1)) (.cons .lnil .nil)))))) .lnil) (.cons .lnil (.cons .lnil (.cons (.lcons (.cons (.n 0) (.cons (.n 0) (.cons (.n 20000) (.cons (.n 10000) .nil)))) .lnil) (.cons .lnil (.cons .lnil (.cons .lnil (.cons (.n 0) (.cons (.n 0) (.cons (.n 0) (.cons (.n 0) (.cons (.n 0) (.cons (.n 0) (.cons .lnil .nil)))))))))))))))) 0) 6
  (.ret (.cons (.ite (.ite (.bin .eq (.var 5) (.n 0)) (.bin .eq (.un .len (.var 4)) (.n 2)) (.t false)) (.ite (.bin .eq (.var 0) (.n 0)) (.ite (.bin .eq (.var 1) (.n 0)) (.ite (.bin .eq (.var 2) (.n 20000)) (.bin .eq (.var 3) (.n 10000)) (.t false)) (.t false)) (.t false)) (.t false)) .nil))))
theorem e4 : (fnVT Try.prog (sgOf sg4) (ltOf lt4) S4 Try.f4 c4).slim (S4.ps.map fun p => p.2.length).sum [] = vt4 := by kernel_rfl
def S11 : Sig := ⟨[(false, [.str])], [(false, [i6])], [], none⟩
noncomputable def c11 : Code := Try.f11.body.getD .skip
theorem b11 : Try.f11.body = some c11 := body_some (by kernel_rfl)
theorem n11 : (Try.f11.name == "runtime.NumGoroutine") = false := by kernel_rfl
def sg11 : List (FuncId × Sig) := [(23, S23)]
def lt11 : List (Nat × LoopSig) := []
theorem k11 : (Code.loops c11).length = 0 := by kernel_rfl
def vt11 : VT :=
  (.need (.t true) (.pre 23 (.cons (.var 0) .nil))
  (.lt (.app 23 (.cons (.var 0) .nil) 0) 1
  (.ite (.un .not (.var 1))
   (.ret (.cons (.n 0) .nil))
   (.ret (.cons (.bin (.mul .i64) (.n 600) (.un .slen (.var 0))) .nil)))))
theorem e11 : (fnVT Try.prog (sgOf sg11) (ltOf lt11) S11 Try.f11 c11).slim (S11.ps.map fun p => p.2.length).sum [] = vt11 := by kernel_rfl
def S5 : Sig := ⟨[(false, [(.sl 9 [.str])])], [(true, [i6, i6])], [], none⟩
noncomputable def c5 : Code := Try.f5.body.getD .skip
theorem b5 : Try.f5.body = some c5 := body_some (by kernel_rfl)
theorem n5 : (Try.f5.name == "runtime.NumGoroutine") = false := by kernel_rfl
def sg5 : List (FuncId × Sig) := [(11, S11)]
def L5_0 : LoopSig := ⟨10500, [],
   ⟨[.any, .any, .any, (.c (.ptr 1 0)), .any, .any, .any, .any, .any, .any, (.c (.x (.sl 9 [.str]) (.var 0))), (.c (.x i6 (.var 1))), (.c (.x i6 (.var 2))), .any, .any, .any, .any, .any, .any, .any, .any, .any, .any, .any],
    [none, some ⟨(.t true), (.box 26 [(.x i6 (.var 3)), (.x i6 (.var 4))] false)⟩]⟩,
   5, [2, 3], [13, 14, 15, 5, 16, 17, 18, 19, 20, 21, 22, 12], [(.exit 0)], []⟩
def lt5 : List (Nat × LoopSig) := [(3, L5_0)]
theorem k5 : (Code.loops c5).length = 1 := by kernel_rfl
noncomputable def lb5_0 : Code := (Code.loops c5).getD 0 .skip
def rt5_0 : VT :=
  (.ite (.bin .lt (.var 2) (.var 1))
   (.need (.t true) (.c (.bin .le (.n 0) (.var 2)))
   (.need (.t true) (.c (.bin .lt (.var 2) (.un .len (.var 0))))
   (.need (.t true) (.pre 11 (.cons (.sel 0 (.var 0) (.var 2)) .nil))
   (.lt (.app 11 (.cons (.sel 0 (.var 0) (.var 2)) .nil) 0) 1
   (.ret (.cons (.n (-1)) (.cons (.bin (.add .i64) (.var 2) (.n 1)) (.cons (.bin .max (.var 3) (.var 5)) .nil))))))))
   (.ret (.cons (.n 0) (.cons (.var 2) (.cons (.var 3) .nil)))))
theorem le5_0 : (loopVT Try.prog (sgOf sg5) (ltOf lt5) L5_0 lb5_0).slim L5_0.nv [] = rt5_0 := by kernel_rfl
theorem lf5_0 : (firstRegion lb5_0).bind (ltOf lt5) = some L5_0 := by kernel_rfl
theorem lk5_0 : (Code.loops lb5_0).length = 0 := by kernel_rfl
def vt5 : VT :=
  (.need (.t true) (.pre 10500 (.cons (.var 0) (.cons (.un .len (.var 0)) (.cons (.n 0) (.cons (.n 0) (.cons (.bin (.mul .i64) (.n 1000) (.un .len (.var 0))) .nil))))))
  (.lt (.app 10500 (.cons (.var 0) (.cons (.un .len (.var 0)) (.cons (.n 0) (.cons (.n 0) (.cons (.bin (.mul .i64) (.n 1000) (.un .len (.var 0))) .nil))))) 0) 3
  (.ret (.cons (.var 3) (.cons (.bin (.mul .i64) (.n 1000) (.un .len (.var 0))) .nil)))))
theorem e5 : (fnVT Try.prog (sgOf sg5) (ltOf lt5) S5 Try.f5 c5).slim (S5.ps.map fun p => p.2.length).sum [] = vt5 := by kernel_rfl
def S13 : Sig := ⟨[(false, [(.sl 26 [i6, i6])]), (false, [i6]), (false, [i6])], [(false, [i6])], [], none⟩
noncomputable def c13 : Code := Try.f13.body.getD .skip
theorem b13 : Try.f13.body = some c13 := body_some (by kernel_rfl)
theorem n13 : (Try.f13.name == "runtime.NumGoroutine") = false := by kernel_rfl
def sg13 : List (FuncId × Sig) := []
def L13_0 : LoopSig := ⟨11300, [],
   ⟨[.any, .any, .any, .any, .any, .any, (.c (.x i6 (.var 0))), .any, .any, (.c (.x (.sl 26 [i6, i6]) (.var 1))), (.c (.x i6 (.var 2))), (.c (.x i6 (.var 3))), .any, .any, .any, .any, .any, .any, .any, .any, .any, .any, .any, .any, .any, .any, .any, .any, .any, .any, .any, .any, .any, .any, .any, .any, .any, .any, .any, .any, .any, .any, .any, .any, .any, .any, .any, .any, .any],
    []⟩,
   4, [0, 3], [12, 13, 14, 8, 15, 16, 17, 18, 19, 20, 21, 22, 23, 24, 25, 26, 27, 28, 6, 29, 11], [.ret, (.exit 0)], []⟩
def lt13 : List (Nat × LoopSig) := [(2, L13_0)]
theorem k13 : (Code.loops c13).length = 1 := by kernel_rfl
noncomputable def lb13_0 : Code := (Code.loops c13).getD 0 .skip
def rt13_0 : VT :=
  (.ite (.bin .lt (.var 3) (.var 2))
   (.need (.t true) (.c (.bin .le (.n 0) (.var 3)))
   (.need (.t true) (.c (.bin .lt (.var 3) (.un .len (.var 1))))
   (.ite (.ite (.bin .lt (.bin .min (.sel 0 (.var 1) (.var 3)) (.sel 1 (.var 1) (.var 3))) (.n 0)) (.t true) (.bin .lt (.n 1048576) (.bin .max (.sel 0 (.var 1) (.var 3)) (.sel 1 (.var 1) (.var 3)))))
    (.ret (.cons (.n 0) (.cons (.n 1) (.cons (.var 3) .nil))))
    (.ret (.cons (.n (-1)) (.cons (.var 0) (.cons (.bin (.add .i64) (.var 3) (.n 1)) .nil)))))))
   (.ret (.cons (.n 1) (.cons (.var 0) (.cons (.var 3) .nil)))))
theorem le13_0 : (loopVT Try.prog (sgOf sg13) (ltOf lt13) L13_0 lb13_0).slim L13_0.nv [] = rt13_0 := by kernel_rfl
theorem lf13_0 : (firstRegion lb13_0).bind (ltOf lt13) = some L13_0 := by kernel_rfl
theorem lk13_0 : (Code.loops lb13_0).length = 0 := by kernel_rfl
def vt13 : VT :=
  (.need (.t true) (.pre 11300 (.cons (.n 0) (.cons (.var 0) (.cons (.un .len (.var 0)) (.cons (.n 0) .nil)))))
  (.lt (.app 11300 (.cons (.n 0) (.cons (.var 0) (.cons (.un .len (.var 0)) (.cons (.n 0) .nil)))) 0) 3
  (.ite (.bin .eq (.var 3) (.n 0))
   (.ret (.cons (.var 4) .nil))
   (.ite (.ite (.ite (.ite (.bin .lt (.var 1) (.n 0)) (.t true) (.bin .lt (.n 268435456) (.var 1))) (.t true) (.bin .lt (.var 2) (.n 0))) (.t true) (.bin .lt (.n 1048576) (.var 2)))
    (.ret (.cons (.n 1) .nil))
    (.ite (.bin .lt (.n 64) (.un .len (.var 0)))
     (.ret (.cons (.n 2) .nil))
     (.ret (.cons (.n 0) .nil)))))))
theorem e13 : (fnVT Try.prog (sgOf sg13) (ltOf lt13) S13 Try.f13 c13).slim (S13.ps.map fun p => p.2.length).sum [] = vt13 := by kernel_rfl
def S14 : Sig := ⟨[(false, [(.sl 26 [i6, i6])]), (false, [i6]), (false, [i6])], [(false, [(.sl 35 [i6, i6, i6, i6])])], [], none⟩
noncomputable def c14 : Code := Try.f14.body.getD .skip
theorem b14 : Try.f14.body = some c14 := body_some (by kernel_rfl)
theorem n14 : (Try.f14.name == "runtime.NumGoroutine") = false := by kernel_rfl
def sg14 : List (FuncId × Sig) := []
def L14_0 : LoopSig := ⟨11400, [(7, none, 35)],
   ⟨[.any, (.c (.x i6 (.var 0))), (.c (.x i6 (.var 1))), .any, .any, .any, .any, (.c (.row 0 1)), (.c (.x i6 (.var 2))), (.c (.x i6 (.var 3))), (.c (.x i6 (.var 4))), .any, .any, (.c (.x (.sl 26 [i6, i6]) (.var 5))), (.c (.x i6 (.var 6))), (.c (.x i6 (.var 7))), .any, .any, .any, .any, .any, .any, .any, .any, .any, .any, .any, .any, .any, .any, .any, .any, .any, .any, .any, .any, .any, .any, .any, .any, .any, .any, .any, .any, .any, .any, .any, .any, .any, .any, .any, .any, .any, .any, .any, .any, .any, .any, .any, .any, .any, .any],
    [some ⟨(.t true), (.row 35 [i6, i6, i6, i6] (.var 8) 1 false)⟩]⟩,
   9, [2, 3, 4, 7, 8], [16, 17, 18, 19, 12, 11, 20, 21, 22, 23, 24, 25, 26, 27, 28, 29, 30, 31, 32, 8, 9, 33, 10, 34, 35, 36, 37, 38, 39, 40, 41, 42, 43, 44, 45, 46, 47, 7, 48, 49, 50, 51, 52, 53, 54, 55, 56, 57, 58, 59, 60, 15], [(.exit 0)], [8]⟩
def lt14 : List (Nat × LoopSig) := [(4, L14_0)]
theorem k14 : (Code.loops c14).length = 1 := by kernel_rfl
noncomputable def lb14_0 : Code := (Code.loops c14).getD 0 .skip
def rt14_0 : VT :=
  (.ite (.bin .lt (.var 7) (.var 6))
   (.need (.t true) (.c (.bin .le (.n 0) (.var 7)))
   (.need (.t true) (.c (.bin .lt (.var 7) (.un .len (.var 5))))
   (.ite (.ite (.bin .lt (.n 0) (.var 7)) (.bin .lt (.var 0) (.bin (.add .i64) (.var 2) (.sel 0 (.var 5) (.var 7)))) (.t false))
    (.need (.t true) (.c (.bin .le (.un .len (.bin .cat (.var 8) (.lcons (.cons (.n 0) (.cons (.bin (.add .i64) (.var 4) (.var 1)) (.cons (.bin (.add .i64) (.n 0) (.sel 0 (.var 5) (.var 7))) (.cons (.bin (.add .i64) (.bin (.add .i64) (.var 4) (.var 1)) (.sel 1 (.var 5) (.var 7))) .nil)))) .lnil))) (.n 4398046511104)))
    (.ret (.cons (.n (-1)) (.cons (.bin (.add .i64) (.n 0) (.bin (.add .i64) (.sel 0 (.var 5) (.var 7)) (.var 1))) (.cons (.bin (.add .i64) (.var 4) (.var 1)) (.cons (.bin .max (.bin (.add .i64) (.var 4) (.var 1)) (.bin (.add .i64) (.bin (.add .i64) (.var 4) (.var 1)) (.sel 1 (.var 5) (.var 7)))) (.cons (.bin (.add .i64) (.var 7) (.n 1)) (.cons (.bin .cat (.var 8) (.lcons (.cons (.n 0) (.cons (.bin (.add .i64) (.var 4) (.var 1)) (.cons (.bin (.add .i64) (.n 0) (.sel 0 (.var 5) (.var 7))) (.cons (.bin (.add .i64) (.bin (.add .i64) (.var 4) (.var 1)) (.sel 1 (.var 5) (.var 7))) .nil)))) .lnil)) .nil))))))))
    (.need (.t true) (.c (.bin .le (.un .len (.bin .cat (.var 8) (.lcons (.cons (.var 2) (.cons (.var 3) (.cons (.bin (.add .i64) (.var 2) (.sel 0 (.var 5) (.var 7))) (.cons (.bin (.add .i64) (.var 3) (.sel 1 (.var 5) (.var 7))) .nil)))) .lnil))) (.n 4398046511104)))
    (.ret (.cons (.n (-1)) (.cons (.bin (.add .i64) (.var 2) (.bin (.add .i64) (.sel 0 (.var 5) (.var 7)) (.var 1))) (.cons (.var 3) (.cons (.bin .max (.var 4) (.bin (.add .i64) (.var 3) (.sel 1 (.var 5) (.var 7)))) (.cons (.bin (.add .i64) (.var 7) (.n 1)) (.cons (.bin .cat (.var 8) (.lcons (.cons (.var 2) (.cons (.var 3) (.cons (.bin (.add .i64) (.var 2) (.sel 0 (.var 5) (.var 7))) (.cons (.bin (.add .i64) (.var 3) (.sel 1 (.var 5) (.var 7))) .nil)))) .lnil)) .nil)))))))))))
   (.ret (.cons (.n 0) (.cons (.var 2) (.cons (.var 3) (.cons (.var 4) (.cons (.var 7) (.cons (.var 8) .nil))))))))
theorem le14_0 : (loopVT Try.prog (sgOf sg14) (ltOf lt14) L14_0 lb14_0).slim L14_0.nv [] = rt14_0 := by kernel_rfl
theorem lf14_0 : (firstRegion lb14_0).bind (ltOf lt14) = some L14_0 := by kernel_rfl
theorem lk14_0 : (Code.loops lb14_0).length = 0 := by kernel_rfl
def vt14 : VT :=
  (.need (.t true) (.pre 11400 (.cons (.var 1) (.cons (.var 2) (.cons (.n 0) (.cons (.n 0) (.cons (.n 0) (.cons (.var 0) (.cons (.un .len (.var 0)) (.cons (.n 0) (.cons .lnil .nil))))))))))
  (.lt (.app 11400 (.cons (.var 1) (.cons (.var 2) (.cons (.n 0) (.cons (.n 0) (.cons (.n 0) (.cons (.var 0) (.cons (.un .len (.var 0)) (.cons (.n 0) (.cons .lnil .nil))))))))) 0) 6
  (.ret (.cons (.var 8) .nil))))
theorem e14 : (fnVT Try.prog (sgOf sg14) (ltOf lt14) S14 Try.f14 c14).slim (S14.ps.map fun p => p.2.length).sum [] = vt14 := by kernel_rfl
def S15 : Sig := ⟨[(false, [(.sl 35 [i6, i6, i6, i6])])], [(false, [i6])], [], none⟩
noncomputable def c15 : Code := Try.f15.body.getD .skip
theorem b15 : Try.f15.body = some c15 := body_some (by kernel_rfl)
theorem n15 : (Try.f15.name == "runtime.NumGoroutine") = false := by kernel_rfl
def sg15 : List (FuncId × Sig) := []
def L15_0 : LoopSig := ⟨11500, [],
   ⟨[.any, .any, .any, (.c (.x i6 (.var 0))), .any, .any, (.c (.x (.sl 35 [i6, i6, i6, i6]) (.var 1))), (.c (.x i6 (.var 2))), (.c (.x i6 (.var 3))), .any, .any, .any, .any, .any, .any, .any, .any, .any, .any, .any],
    []⟩,
   4, [0, 3], [9, 10, 11, 5, 12, 13, 14, 15, 16, 17, 3, 18, 8], [(.exit 0)], []⟩
def lt15 : List (Nat × LoopSig) := [(3, L15_0)]
theorem k15 : (Code.loops c15).length = 1 := by kernel_rfl
noncomputable def lb15_0 : Code := (Code.loops c15).getD 0 .skip
def rt15_0 : VT :=
  (.ite (.bin .lt (.var 3) (.var 2))
   (.need (.t true) (.c (.bin .le (.n 0) (.var 3)))
   (.need (.t true) (.c (.bin .lt (.var 3) (.un .len (.var 1))))
   (.ret (.cons (.n (-1)) (.cons (.bin .max (.bin .max (.var 0) (.sel 2 (.var 1) (.var 3))) (.sel 3 (.var 1) (.var 3))) (.cons (.bin (.add .i64) (.var 3) (.n 1)) .nil))))))
   (.ret (.cons (.n 0) (.cons (.var 0) (.cons (.var 3) .nil)))))
theorem le15_0 : (loopVT Try.prog (sgOf sg15) (ltOf lt15) L15_0 lb15_0).slim L15_0.nv [] = rt15_0 := by kernel_rfl
theorem lf15_0 : (firstRegion lb15_0).bind (ltOf lt15) = some L15_0 := by kernel_rfl
theorem lk15_0 : (Code.loops lb15_0).length = 0 := by kernel_rfl
def vt15 : VT :=
  (.need (.t true) (.pre 11500 (.cons (.n 0) (.cons (.var 0) (.cons (.un .len (.var 0)) (.cons (.n 0) .nil)))))
  (.lt (.app 11500 (.cons (.n 0) (.cons (.var 0) (.cons (.un .len (.var 0)) (.cons (.n 0) .nil)))) 0) 3
  (.ret (.cons (.var 2) .nil))))
theorem e15 : (fnVT Try.prog (sgOf sg15) (ltOf lt15) S15 Try.f15 c15).slim (S15.ps.map fun p => p.2.length).sum [] = vt15 := by kernel_rfl
def S6 : Sig := ⟨[(false, [(.sl 26 [i6, i6])]), (false, [i6])], [(false, [(.sl 35 [i6, i6, i6, i6])]), (false, [i6])], [], none⟩
noncomputable def c6 : Code := Try.f6.body.getD .skip
theorem b6 : Try.f6.body = some c6 := body_some (by kernel_rfl)
theorem n6 : (Try.f6.name == "runtime.NumGoroutine") = false := by kernel_rfl
def sg6 : List (FuncId × Sig) := [(13, S13), (14, S14), (15, S15)]
def L6_0 : LoopSig := ⟨10600, [],
   ⟨[(.c (.x (.sl 26 [i6, i6]) (.var 0))), (.c (.x i6 (.var 1))), .any, .any, .any, .any, .any, (.c (.x (.sl 35 [i6, i6, i6, i6]) (.var 2))), (.c (.x i6 (.var 3))), .any, .any, .any, .any, .any, .any, .any, .any, .any, .any, .any, (.c (.x (.sl 26 [i6, i6]) (.var 4))), (.c (.x i6 (.var 5))), (.c (.x i6 (.var 6))), .any, .any, .any, .any, .any, .any, .any, .any, .any, .any, .any, .any, .any, .any, .any, .any, .any, .any, .any, .any, .any, .any, .any, .any, .any, .any],
    []⟩,
   7, [2, 3, 6], [23, 24, 25, 26, 10, 9, 27, 28, 29, 30, 31, 32, 8, 33, 34, 35, 36, 11, 37, 38, 39, 40, 41, 42, 43, 44, 45, 46, 7, 47, 22], [(.exit 0)], []⟩
def lt6 : List (Nat × LoopSig) := [(7, L6_0)]
theorem k6 : (Code.loops c6).length = 1 := by kernel_rfl
noncomputable def lb6_0 : Code := (Code.loops c6).getD 0 .skip
def rt6_0 : VT :=
  (.ite (.bin .lt (.var 6) (.var 5))
   (.need (.t true) (.c (.bin .le (.n 0) (.var 6)))
   (.need (.t true) (.c (.bin .lt (.var 6) (.un .len (.var 4))))
   (.need (.t true) (.pre 14 (.cons (.var 0) (.cons (.bin (.add .i64) (.var 3) (.bin (.add .i64) (.var 1) (.sel 0 (.var 4) (.var 6)))) (.cons (.var 1) .nil))))
   (.lt (.app 14 (.cons (.var 0) (.cons (.bin (.add .i64) (.var 3) (.bin (.add .i64) (.var 1) (.sel 0 (.var 4) (.var 6)))) (.cons (.var 1) .nil))) 0) 1
   (.need (.un .not (.bin .eq (.var 6) (.n 0))) (.pre 15 (.cons (.var 7) .nil))
   (.lt (.app 15 (.cons (.var 7) .nil) 0) 1
   (.need (.un .not (.bin .eq (.var 6) (.n 0))) (.pre 15 (.cons (.var 2) .nil))
   (.lt (.app 15 (.cons (.var 2) .nil) 0) 1
   (.ite (.ite (.bin .eq (.var 6) (.n 0)) (.t true) (.bin .lt (.var 8) (.var 9)))
    (.ret (.cons (.n (-1)) (.cons (.var 7) (.cons (.bin (.add .i64) (.var 3) (.bin (.add .i64) (.var 1) (.sel 0 (.var 4) (.var 6)))) (.cons (.bin (.add .i64) (.var 6) (.n 1)) .nil)))))
    (.ret (.cons (.n (-1)) (.cons (.var 2) (.cons (.bin (.add .i64) (.var 3) (.bin (.add .i64) (.var 1) (.sel 0 (.var 4) (.var 6)))) (.cons (.bin (.add .i64) (.var 6) (.n 1)) .nil))))))))))))))
   (.ret (.cons (.n 0) (.cons (.var 2) (.cons (.var 3) (.cons (.var 6) .nil))))))
theorem le6_0 : (loopVT Try.prog (sgOf sg6) (ltOf lt6) L6_0 lb6_0).slim L6_0.nv [] = rt6_0 := by kernel_rfl
theorem lf6_0 : (firstRegion lb6_0).bind (ltOf lt6) = some L6_0 := by kernel_rfl
theorem lk6_0 : (Code.loops lb6_0).length = 0 := by kernel_rfl
def vt6 : VT :=
  (.need (.t true) (.pre 13 (.cons (.var 0) (.cons (.n 0) (.cons (.var 1) .nil))))
  (.lt (.app 13 (.cons (.var 0) (.cons (.n 0) (.cons (.var 1) .nil))) 0) 1
  (.ite (.un .not (.bin .eq (.var 2) (.n 0)))
   (.ret (.cons .lnil (.cons (.var 2) .nil)))
   (.need (.t true) (.pre 10600 (.cons (.var 0) (.cons (.var 1) (.cons .lnil (.cons (.un (.neg .i64) (.var 1)) (.cons (.var 0) (.cons (.un .len (.var 0)) (.cons (.n 0) .nil))))))))
   (.lt (.app 10600 (.cons (.var 0) (.cons (.var 1) (.cons .lnil (.cons (.un (.neg .i64) (.var 1)) (.cons (.var 0) (.cons (.un .len (.var 0)) (.cons (.n 0) .nil))))))) 0) 4
   (.ret (.cons (.var 4) (.cons (.n 0) .nil))))))))
theorem e6 : (fnVT Try.prog (sgOf sg6) (ltOf lt6) S6 Try.f6 c6).slim (S6.ps.map fun p => p.2.length).sum [] = vt6 := by kernel_rfl
def S29 : Sig := ⟨[(true, [i6, i6, i6, i6])], [(true, [i6, i6, i6, i6])], [], none⟩
noncomputable def c29 : Code := Try.f29.body.getD .skip
theorem b29 : Try.f29.body = some c29 := body_some (by kernel_rfl)
theorem n29 : (Try.f29.name == "runtime.NumGoroutine") = false := by kernel_rfl
def sg29 : List (FuncId × Sig) := [(17, S17)]
def lt29 : List (Nat × LoopSig) := []
theorem k29 : (Code.loops c29).length = 0 := by kernel_rfl
def vt29 : VT :=
  (.need (.t true) (.pre 17 (.cons (.var 0) (.cons (.var 1) (.cons (.var 2) (.cons (.var 3) .nil)))))
  (.lt (.app 17 (.cons (.var 0) (.cons (.var 1) (.cons (.var 2) (.cons (.var 3) .nil)))) 0) 1
  (.ite (.un .not (.var 4))
   (.ret (.cons (.n 0) (.cons (.n 0) (.cons (.n 0) (.cons (.n 0) .nil)))))
   (.ret (.cons (.var 0) (.cons (.var 1) (.cons (.var 2) (.cons (.var 3) .nil))))))))
theorem e29 : (fnVT Try.prog (sgOf sg29) (ltOf lt29) S29 Try.f29 c29).slim (S29.ps.map fun p => p.2.length).sum [] = vt29 := by kernel_rfl
def T29 : FuncId → List D → List D := tabOf [(17, fn17)]
def fn29 (ρ : List D) : List D := vt29.val T29 ρ
theorem m29 : Meets Try.prog 29 S29 (fun _ => True) fn29 := meets_easy (sgl := sg29) (Φ := T29) mixed (List.forall_mem_cons.2 ⟨m17, (fun _ h => nomatch h)⟩) Try.func29 b29 n29 k29 e29 (by kernel_rfl)
def S16 : Sig := ⟨[(true, [i6, i6, i6, i6]), (false, [i6])], [(true, [i6, i6, i6, i6])], [], none⟩
noncomputable def c16 : Code := Try.f16.body.getD .skip
theorem b16 : Try.f16.body = some c16 := body_some (by kernel_rfl)
theorem n16 : (Try.f16.name == "runtime.NumGoroutine") = false := by kernel_rfl
def sg16 : List (FuncId × Sig) := [(17, S17), (29, S29)]
def lt16 : List (Nat × LoopSig) := []
theorem k16 : (Code.loops c16).length = 0 := by kernel_rfl
def vt16 : VT :=
  (.need (.t true) (.pre 17 (.cons (.var 0) (.cons (.var 1) (.cons (.var 2) (.cons (.var 3) .nil)))))
  (.lt (.app 17 (.cons (.var 0) (.cons (.var 1) (.cons (.var 2) (.cons (.var 3) .nil)))) 0) 1
  (.ite (.ite (.ite (.un .not (.var 5)) (.t true) (.bin .lt (.n 536870912) (.var 4))) (.t true) (.bin .lt (.var 4) (.n (-536870912))))
   (.ret (.cons (.n 0) (.cons (.n 0) (.cons (.n 0) (.cons (.n 0) .nil)))))
   (.need (.t true) (.pre 29 (.cons (.bin (.sub .i64) (.var 0) (.var 4)) (.cons (.bin (.sub .i64) (.var 1) (.var 4)) (.cons (.bin (.add .i64) (.var 2) (.var 4)) (.cons (.bin (.add .i64) (.var 3) (.var 4)) .nil)))))
   (.lt (.app 29 (.cons (.bin (.sub .i64) (.var 0) (.var 4)) (.cons (.bin (.sub .i64) (.var 1) (.var 4)) (.cons (.bin (.add .i64) (.var 2) (.var 4)) (.cons (.bin (.add .i64) (.var 3) (.var 4)) .nil)))) 0) 4
   (.ret (.cons (.var 6) (.cons (.var 7) (.cons (.var 8) (.cons (.var 9) .nil))))))))))
theorem e16 : (fnVT Try.prog (sgOf sg16) (ltOf lt16) S16 Try.f16 c16).slim (S16.ps.map fun p => p.2.length).sum [] = vt16 := by kernel_rfl
def T16 : FuncId → List D → List D := tabOf [(17, fn17), (29, fn29)]
def fn16 (ρ : List D) : List D := vt16.val T16 ρ
theorem m16 : Meets Try.prog 16 S16 (fun _ => True) fn16 := meets_easy (sgl := sg16) (Φ := T16) mixed (List.forall_mem_cons.2 ⟨m17, List.forall_mem_cons.2 ⟨m29, (fun _ h => nomatch h)⟩⟩) Try.func16 b16 n16 k16 e16 (by kernel_rfl)
def S10 : Sig := ⟨[(true, [i6, i6, i6, i6]), (true, [i6, i6, i6, i6])], [(false, [.bool])], [], none⟩
noncomputable def c10 : Code := Try.f10.body.getD .skip
theorem b10 : Try.f10.body = some c10 := body_some (by kernel_rfl)
theorem n10 : (Try.f10.name == "runtime.NumGoroutine") = false := by kernel_rfl
def sg10 : List (FuncId × Sig) := [(17, S17)]
def lt10 : List (Nat × LoopSig) := []
theorem k10 : (Code.loops c10).length = 0 := by kernel_rfl
def vt10 : VT :=
  (.need (.t true) (.pre 17 (.cons (.var 0) (.cons (.var 1) (.cons (.var 2) (.cons (.var 3) .nil)))))
  (.lt (.app 17 (.cons (.var 0) (.cons (.var 1) (.cons (.var 2) (.cons (.var 3) .nil)))) 0) 1
  (.need (.var 8) (.pre 17 (.cons (.var 4) (.cons (.var 5) (.cons (.var 6) (.cons (.var 7) .nil)))))
  (.lt (.app 17 (.cons (.var 4) (.cons (.var 5) (.cons (.var 6) (.cons (.var 7) .nil)))) 0) 1
  (.ret (.cons (.ite (.ite (.ite (.var 8) (.var 9) (.t false)) (.bin .lt (.bin .max (.var 0) (.var 4)) (.bin .min (.var 2) (.var 6))) (.t false)) (.bin .lt (.bin .max (.var 1) (.var 5)) (.bin .min (.var 3) (.var 7))) (.t false)) .nil))))))
theorem e10 : (fnVT Try.prog (sgOf sg10) (ltOf lt10) S10 Try.f10 c10).slim (S10.ps.map fun p => p.2.length).sum [] = vt10 := by kernel_rfl
def T10 : FuncId → List D → List D := tabOf [(17, fn17)]
def fn10 (ρ : List D) : List D := vt10.val T10 ρ
theorem m10 : Meets Try.prog 10 S10 (fun _ => True) fn10 := meets_easy (sgl := sg10) (Φ := T10) mixed (List.forall_mem_cons.2 ⟨m17, (fun _ h => nomatch h)⟩) Try.func10 b10 n10 k10 e10 (by kernel_rfl)
def S7 : Sig := ⟨[(false, [(.sl 35 [i6, i6, i6, i6])]), (false, [i6])], [(false, [.bool])], [], none⟩
noncomputable def c7 : Code := Try.f7.body.getD .skip
theorem b7 : Try.f7.body = some c7 := body_some (by kernel_rfl)
theorem n7 : (Try.f7.name == "runtime.NumGoroutine") = false := by kernel_rfl
def sg7 : List (FuncId × Sig) := [(16, S16), (10, S10)]
def L7_0 : LoopSig := ⟨10701, [],
   ⟨[(.c (.x (.sl 35 [i6, i6, i6, i6]) (.var 0))), (.c (.x i6 (.var 1))), .any, .any, (.c (.x .bool (.var 2))), .any, .any, .any, .any, .any, (.c (.x (.sl 35 [i6, i6, i6, i6]) (.var 3))), (.c (.x i6 (.var 4))), (.c (.x i6 (.var 5))), .any, .any, .any, .any, .any, .any, .any, .any, .any, .any, .any, .any, .any, .any, .any, .any, .any, .any, .any, .any],
    []⟩,
   6, [2, 5], [13, 14, 15, 16, 6, 5, 17, 18, 19, 7, 20, 21, 22, 23, 24, 25, 26, 27, 9, 28, 29, 30, 4, 31, 32, 12], [.ret, (.exit 0)], []⟩
def L7_1 : LoopSig := ⟨10700, [],
   ⟨[.any, .any, .any, .any, (.c (.x .bool (.var 0))), .any, .any, (.c (.ptr 1 0)), .any, .any, .any, .any, .any, .any, .any, .any, .any, .any, .any, .any, .any, .any, (.c (.x (.sl 35 [i6, i6, i6, i6]) (.var 1))), (.c (.x i6 (.var 2))), (.c (.x i6 (.var 3))), .any, .any, .any, .any, .any, .any, .any, .any],
    [none, some ⟨(.t true), (.box 35 [(.x i6 (.var 4)), (.x i6 (.var 5)), (.x i6 (.var 6)), (.x i6 (.var 7))] false)⟩]⟩,
   8, [0, 3], [25, 26, 27, 9, 28, 29, 30, 4, 31, 24], [.ret, (.exit 2)], []⟩
def lt7 : List (Nat × LoopSig) := [(2, L7_0), (6, L7_1)]
theorem k7 : (Code.loops c7).length = 2 := by kernel_rfl
noncomputable def lb7_0 : Code := (Code.loops c7).getD 0 .skip
noncomputable def lb7_1 : Code := (Code.loops c7).getD 1 .skip
def rt7_0 : VT :=
  (.ite (.bin .lt (.var 5) (.var 4))
   (.need (.t true) (.c (.bin .le (.n 0) (.var 5)))
   (.need (.t true) (.c (.bin .lt (.var 5) (.un .len (.var 3))))
   (.need (.t true) (.pre 16 (.cons (.sel 0 (.var 3) (.var 5)) (.cons (.sel 1 (.var 3) (.var 5)) (.cons (.sel 2 (.var 3) (.var 5)) (.cons (.sel 3 (.var 3) (.var 5)) (.cons (.var 1) .nil))))))
   (.lt (.app 16 (.cons (.sel 0 (.var 3) (.var 5)) (.cons (.sel 1 (.var 3) (.var 5)) (.cons (.sel 2 (.var 3) (.var 5)) (.cons (.sel 3 (.var 3) (.var 5)) (.cons (.var 1) .nil))))) 0) 4
   (.need (.t true) (.c (.bin .le (.var 5) (.un .len (.var 0))))
   (.need (.t true) (.pre 10700 (.cons (.var 2) (.cons (.sub (.var 0) (.n 0) (.var 5)) (.cons (.un .len (.sub (.var 0) (.n 0) (.var 5))) (.cons (.n 0) (.cons (.var 6) (.cons (.var 7) (.cons (.var 8) (.cons (.var 9) .nil)))))))))
   (.lt (.app 10700 (.cons (.var 2) (.cons (.sub (.var 0) (.n 0) (.var 5)) (.cons (.un .len (.sub (.var 0) (.n 0) (.var 5))) (.cons (.n 0) (.cons (.var 6) (.cons (.var 7) (.cons (.var 8) (.cons (.var 9) .nil)))))))) 0) 3
   (.ite (.bin .eq (.var 10) (.n 0))
    (.ret (.cons (.n 0) (.cons (.var 11) (.cons (.var 5) .nil))))
    (.ret (.cons (.n (-1)) (.cons (.var 11) (.cons (.bin (.add .i64) (.var 5) (.n 1)) .nil))))))))))))
   (.ret (.cons (.n 1) (.cons (.var 2) (.cons (.var 5) .nil)))))
theorem le7_0 : (loopVT Try.prog (sgOf sg7) (ltOf lt7) L7_0 lb7_0).slim L7_0.nv [] = rt7_0 := by kernel_rfl
theorem lf7_0 : (firstRegion lb7_0).bind (ltOf lt7) = some L7_0 := by kernel_rfl
theorem lk7_0 : (Code.loops lb7_0).length = 1 := by kernel_rfl
theorem li7_0_0 : (Code.loops lb7_0).getD 0 .skip = lb7_1 := by kernel_rfl
def rt7_1 : VT :=
  (.ite (.bin .lt (.var 3) (.var 2))
   (.need (.t true) (.c (.bin .le (.n 0) (.var 3)))
   (.need (.t true) (.c (.bin .lt (.var 3) (.un .len (.var 1))))
   (.need (.t true) (.pre 10 (.cons (.sel 0 (.var 1) (.var 3)) (.cons (.sel 1 (.var 1) (.var 3)) (.cons (.sel 2 (.var 1) (.var 3)) (.cons (.sel 3 (.var 1) (.var 3)) (.cons (.var 4) (.cons (.var 5) (.cons (.var 6) (.cons (.var 7) .nil)))))))))
   (.lt (.app 10 (.cons (.sel 0 (.var 1) (.var 3)) (.cons (.sel 1 (.var 1) (.var 3)) (.cons (.sel 2 (.var 1) (.var 3)) (.cons (.sel 3 (.var 1) (.var 3)) (.cons (.var 4) (.cons (.var 5) (.cons (.var 6) (.cons (.var 7) .nil)))))))) 0) 1
   (.ite (.var 8)
    (.ret (.cons (.n 0) (.cons (.t false) (.cons (.var 3) .nil))))
    (.ret (.cons (.n (-1)) (.cons (.var 0) (.cons (.bin (.add .i64) (.var 3) (.n 1)) .nil)))))))))
   (.ret (.cons (.n 1) (.cons (.var 0) (.cons (.var 3) .nil)))))
theorem le7_1 : (loopVT Try.prog (sgOf sg7) (ltOf lt7) L7_1 lb7_1).slim L7_1.nv [] = rt7_1 := by kernel_rfl
theorem lf7_1 : (firstRegion lb7_1).bind (ltOf lt7) = some L7_1 := by kernel_rfl
theorem lk7_1 : (Code.loops lb7_1).length = 0 := by kernel_rfl
def vt7 : VT :=
  (.need (.t true) (.pre 10701 (.cons (.var 0) (.cons (.var 1) (.cons (.t false) (.cons (.var 0) (.cons (.un .len (.var 0)) (.cons (.n 0) .nil)))))))
  (.lt (.app 10701 (.cons (.var 0) (.cons (.var 1) (.cons (.t false) (.cons (.var 0) (.cons (.un .len (.var 0)) (.cons (.n 0) .nil)))))) 0) 3
  (.ite (.bin .eq (.var 2) (.n 0))
   (.ret (.cons (.var 3) .nil))
   (.ret (.cons (.t true) .nil)))))
theorem e7 : (fnVT Try.prog (sgOf sg7) (ltOf lt7) S7 Try.f7 c7).slim (S7.ps.map fun p => p.2.length).sum [] = vt7 := by kernel_rfl
def S48 : Sig := ⟨[(false, [(.sl 3 [i6])]), (false, [.clo])], [(false, [i6])], [], none⟩
noncomputable def c48 : Code := Try.f48.body.getD .skip
theorem b48 : Try.f48.body = some c48 := body_some (by kernel_rfl)
theorem n48 : (Try.f48.name == "runtime.NumGoroutine") = false := by kernel_rfl
def sg48 : List (FuncId × Sig) := [(20004, S20004)]
def L48_0 : LoopSig := ⟨14800, [],
   ⟨[(.c (.x (.sl 3 [i6]) (.var 0))), (.c (.x .clo (.var 1))), .any, .any, (.c (.x i6 (.var 2))), .any, .any, (.c (.x i6 (.var 3))), (.c (.x i6 (.var 4))), .any, .any, .any, .any, .any, .any, .any, .any, .any, .any],
    []⟩,
   5, [2, 4], [9, 10, 5, 11, 12, 13, 14, 15, 16, 17, 4, 18, 8], [.ret, (.exit 0)], []⟩
def lt48 : List (Nat × LoopSig) := [(2, L48_0)]
theorem k48 : (Code.loops c48).length = 1 := by kernel_rfl
noncomputable def lb48_0 : Code := (Code.loops c48).getD 0 .skip
def rt48_0 : VT :=
  (.ite (.bin .lt (.var 4) (.var 3))
   (.need (.t true) (.c (.bin .le (.n 0) (.var 4)))
   (.need (.t true) (.c (.bin .lt (.var 4) (.un .len (.var 0))))
   (.need (.t true) (.pre 20004 (.cons (.var 1) (.cons (.sel 0 (.var 0) (.var 4)) .nil)))
   (.lt (.app 20004 (.cons (.var 1) (.cons (.sel 0 (.var 0) (.var 4)) .nil)) 0) 1
   (.ite (.var 5)
    (.ret (.cons (.n 0) (.cons (.var 4) (.cons (.var 4) .nil))))
    (.ret (.cons (.n (-1)) (.cons (.var 2) (.cons (.bin (.add .i64) (.var 4) (.n 1)) .nil)))))))))
   (.ret (.cons (.n 1) (.cons (.var 2) (.cons (.var 4) .nil)))))
theorem le48_0 : (loopVT Try.prog (sgOf sg48) (ltOf lt48) L48_0 lb48_0).slim L48_0.nv [] = rt48_0 := by kernel_rfl
theorem lf48_0 : (firstRegion lb48_0).bind (ltOf lt48) = some L48_0 := by kernel_rfl
theorem lk48_0 : (Code.loops lb48_0).length = 0 := by kernel_rfl
def vt48 : VT :=
  (.need (.t true) (.pre 14800 (.cons (.var 0) (.cons (.var 1) (.cons (.n 0) (.cons (.un .len (.var 0)) (.cons (.n 0) .nil))))))
  (.lt (.app 14800 (.cons (.var 0) (.cons (.var 1) (.cons (.n 0) (.cons (.un .len (.var 0)) (.cons (.n 0) .nil))))) 0) 3
  (.ite (.bin .eq (.var 2) (.n 0))
   (.ret (.cons (.var 3) .nil))
   (.ret (.cons (.n (-1)) .nil)))))
theorem e48 : (fnVT Try.prog (sgOf sg48) (ltOf lt48) S48 Try.f48 c48).slim (S48.ps.map fun p => p.2.length).sum [] = vt48 := by kernel_rfl
def S31 : Sig := ⟨[(false, [(.sl 3 [i6])]), (false, [.clo])], [(false, [.bool])], [], none⟩
noncomputable def c31 : Code := Try.f31.body.getD .skip
theorem b31 : Try.f31.body = some c31 := body_some (by kernel_rfl)
theorem n31 : (Try.f31.name == "runtime.NumGoroutine") = false := by kernel_rfl
def sg31 : List (FuncId × Sig) := [(48, S48)]
def lt31 : List (Nat × LoopSig) := []
theorem k31 : (Code.loops c31).length = 0 := by kernel_rfl
def vt31 : VT :=
  (.need (.t true) (.pre 48 (.cons (.var 0) (.cons (.var 1) .nil)))
  (.lt (.app 48 (.cons (.var 0) (.cons (.var 1) .nil)) 0) 1
  (.ret (.cons (.bin .le (.n 0) (.var 2)) .nil))))
theorem e31 : (fnVT Try.prog (sgOf sg31) (ltOf lt31) S31 Try.f31 c31).slim (S31.ps.map fun p => p.2.length).sum [] = vt31 := by kernel_rfl
def S32 : Sig := ⟨[(false, [i6])], [(false, [.bool])], [], none⟩
noncomputable def c32 : Code := Try.f32.body.getD .skip
theorem b32 : Try.f32.body = some c32 := body_some (by kernel_rfl)
theorem n32 : (Try.f32.name == "runtime.NumGoroutine") = false := by kernel_rfl
def sg32 : List (FuncId × Sig) := []
def lt32 : List (Nat × LoopSig) := []
theorem k32 : (Code.loops c32).length = 0 := by kernel_rfl
def vt32 : VT :=
  (.ret (.cons (.ite (.bin .lt (.var 0) (.n 0)) (.t true) (.bin .lt (.n 1048576) (.var 0))) .nil))
theorem e32 : (fnVT Try.prog (sgOf sg32) (ltOf lt32) S32 Try.f32 c32).slim (S32.ps.map fun p => p.2.length).sum [] = vt32 := by kernel_rfl
def T32 : FuncId → List D → List D := tabOf []
def fn32 (ρ : List D) : List D := vt32.val T32 ρ
theorem m32 : Meets Try.prog 32 S32 (fun _ => True) fn32 := meets_easy (sgl := sg32) (Φ := T32) mixed ((fun _ h => nomatch h)) Try.func32 b32 n32 k32 e32 (by kernel_rfl)
def S18 : Sig := ⟨[(false, [(.sl 3 [i6])])], [(false, [.bool])], [], none⟩
noncomputable def c18 : Code := Try.f18.body.getD .skip
theorem b18 : Try.f18.body = some c18 := body_some (by kernel_rfl)
theorem n18 : (Try.f18.name == "runtime.NumGoroutine") = false := by kernel_rfl
def sg18 : List (FuncId × Sig) := [(31, S31)]
def lt18 : List (Nat × LoopSig) := []
theorem k18 : (Code.loops c18).length = 0 := by kernel_rfl
def vt18 : VT :=
  (.need (.t true) (.pre 31 (.cons (.var 0) (.cons (.clo 32 [] .nil) .nil)))
  (.lt (.app 31 (.cons (.var 0) (.cons (.clo 32 [] .nil) .nil)) 0) 1
  (.ret (.cons (.un .not (.var 1)) .nil))))
theorem e18 : (fnVT Try.prog (sgOf sg18) (ltOf lt18) S18 Try.f18 c18).slim (S18.ps.map fun p => p.2.length).sum [] = vt18 := by kernel_rfl
def S33 : Sig := ⟨[(true, [i6, i6, i6, i6])], [(true, [i6, i6])], [], none⟩
noncomputable def c33 : Code := Try.f33.body.getD .skip
theorem b33 : Try.f33.body = some c33 := body_some (by kernel_rfl)
theorem n33 : (Try.f33.name == "runtime.NumGoroutine") = false := by kernel_rfl
def sg33 : List (FuncId × Sig) := [(17, S17)]
def lt33 : List (Nat × LoopSig) := []
theorem k33 : (Code.loops c33).length = 0 := by kernel_rfl
def vt33 : VT :=
  (.need (.t true) (.pre 17 (.cons (.var 0) (.cons (.var 1) (.cons (.var 2) (.cons (.var 3) .nil)))))
  (.lt (.app 17 (.cons (.var 0) (.cons (.var 1) (.cons (.var 2) (.cons (.var 3) .nil)))) 0) 1
  (.ite (.un .not (.var 4))
   (.ret (.cons (.n 0) (.cons (.n 0) .nil)))
   (.ret (.cons (.bin (.shr .i64) (.bin (.add .i64) (.var 0) (.var 2)) (.n 1)) (.cons (.bin (.shr .i64) (.bin (.add .i64) (.var 1) (.var 3)) (.n 1)) .nil))))))
theorem e33 : (fnVT Try.prog (sgOf sg33) (ltOf lt33) S33 Try.f33 c33).slim (S33.ps.map fun p => p.2.length).sum [] = vt33 := by kernel_rfl
def T33 : FuncId → List D → List D := tabOf [(17, fn17)]
def fn33 (ρ : List D) : List D := vt33.val T33 ρ
theorem m33 : Meets Try.prog 33 S33 (fun _ => True) fn33 := meets_easy (sgl := sg33) (Φ := T33) mixed (List.forall_mem_cons.2 ⟨m17, (fun _ h => nomatch h)⟩) Try.func33 b33 n33 k33 e33 (by kernel_rfl)
def S20 : Sig := ⟨[(true, [i6, i6, i6, i6]), (false, [i6]), (false, [i6]), (false, [i6]), (false, [i6])], [(true, [i6, i6, i6, i6])], [], none⟩
noncomputable def c20 : Code := Try.f20.body.getD .skip
theorem b20 : Try.f20.body = some c20 := body_some (by kernel_rfl)
theorem n20 : (Try.f20.name == "runtime.NumGoroutine") = false := by kernel_rfl
def sg20 : List (FuncId × Sig) := [(33, S33)]
def lt20 : List (Nat × LoopSig) := []
theorem k20 : (Code.loops c20).length = 0 := by kernel_rfl
def vt20 : VT :=
  (.need (.t true) (.pre 33 (.cons (.var 0) (.cons (.var 1) (.cons (.var 2) (.cons (.var 3) .nil)))))
  (.lt (.app 33 (.cons (.var 0) (.cons (.var 1) (.cons (.var 2) (.cons (.var 3) .nil)))) 0) 2
  (.ite (.bin .eq (.var 7) (.n 1))
   (.ret (.cons (.bin (.add .i64) (.var 2) (.var 6)) (.cons (.bin (.sub .i64) (.bin (.sub .i64) (.var 1) (.var 6)) (.var 5)) (.cons (.bin (.add .i64) (.bin (.add .i64) (.var 2) (.var 6)) (.var 4)) (.cons (.bin (.add .i64) (.bin (.sub .i64) (.bin (.sub .i64) (.var 1) (.var 6)) (.var 5)) (.var 5)) .nil)))))
   (.ite (.bin .eq (.var 7) (.n 2))
    (.ret (.cons (.bin (.add .i64) (.var 2) (.var 6)) (.cons (.bin (.sub .i64) (.var 9) (.bin (.quo .i64) (.var 5) (.n 2))) (.cons (.bin (.add .i64) (.bin (.add .i64) (.var 2) (.var 6)) (.var 4)) (.cons (.bin (.add .i64) (.bin (.sub .i64) (.var 9) (.bin (.quo .i64) (.var 5) (.n 2))) (.var 5)) .nil)))))
    (.ite (.bin .eq (.var 7) (.n 3))
     (.ret (.cons (.bin (.add .i64) (.var 2) (.var 6)) (.cons (.bin (.add .i64) (.var 3) (.var 6)) (.cons (.bin (.add .i64) (.bin (.add .i64) (.var 2) (.var 6)) (.var 4)) (.cons (.bin (.add .i64) (.bin (.add .i64) (.var 3) (.var 6)) (.var 5)) .nil)))))
     (.ite (.bin .eq (.var 7) (.n 7))
      (.ret (.cons (.bin (.sub .i64) (.bin (.sub .i64) (.var 0) (.var 6)) (.var 4)) (.cons (.bin (.sub .i64) (.bin (.sub .i64) (.var 1) (.var 6)) (.var 5)) (.cons (.bin (.add .i64) (.bin (.sub .i64) (.bin (.sub .i64) (.var 0) (.var 6)) (.var 4)) (.var 4)) (.cons (.bin (.add .i64) (.bin (.sub .i64) (.bin (.sub .i64) (.var 1) (.var 6)) (.var 5)) (.var 5)) .nil)))))
      (.ite (.bin .eq (.var 7) (.n 6))
       (.ret (.cons (.bin (.sub .i64) (.bin (.sub .i64) (.var 0) (.var 6)) (.var 4)) (.cons (.bin (.sub .i64) (.var 9) (.bin (.quo .i64) (.var 5) (.n 2))) (.cons (.bin (.add .i64) (.bin (.sub .i64) (.bin (.sub .i64) (.var 0) (.var 6)) (.var 4)) (.var 4)) (.cons (.bin (.add .i64) (.bin (.sub .i64) (.var 9) (.bin (.quo .i64) (.var 5) (.n 2))) (.var 5)) .nil)))))
       (.ite (.bin .eq (.var 7) (.n 5))
        (.ret (.cons (.bin (.sub .i64) (.bin (.sub .i64) (.var 0) (.var 6)) (.var 4)) (.cons (.bin (.add .i64) (.var 3) (.var 6)) (.cons (.bin (.add .i64) (.bin (.sub .i64) (.bin (.sub .i64) (.var 0) (.var 6)) (.var 4)) (.var 4)) (.cons (.bin (.add .i64) (.bin (.add .i64) (.var 3) (.var 6)) (.var 5)) .nil)))))
        (.ite (.bin .eq (.var 7) (.n 0))
         (.ret (.cons (.bin (.sub .i64) (.var 8) (.bin (.quo .i64) (.var 4) (.n 2))) (.cons (.bin (.sub .i64) (.bin (.sub .i64) (.var 1) (.var 6)) (.var 5)) (.cons (.bin (.add .i64) (.bin (.sub .i64) (.var 8) (.bin (.quo .i64) (.var 4) (.n 2))) (.var 4)) (.cons (.bin (.add .i64) (.bin (.sub .i64) (.bin (.sub .i64) (.var 1) (.var 6)) (.var 5)) (.var 5)) .nil)))))
         (.ite (.bin .eq (.var 7) (.n 4))
          (.ret (.cons (.bin (.sub .i64) (.var 8) (.bin (.quo .i64) (.var 4) (.n 2))) (.cons (.bin (.add .i64) (.var 3) (.var 6)) (.cons (.bin (.add .i64) (.bin (.sub .i64) (.var 8) (.bin (.quo .i64) (.var 4) (.n 2))) (.var 4)) (.cons (.bin (.add .i64) (.bin (.add .i64) (.var 3) (.var 6)) (.var 5)) .nil)))))
          (.ret (.cons (.bin (.sub .i64) (.var 8) (.bin (.quo .i64) (.var 4) (.n 2))) (.cons (.bin (.sub .i64) (.var 9) (.bin (.quo .i64) (.var 5) (.n 2))) (.cons (.bin (.add .i64) (.bin (.sub .i64) (.var 8) (.bin (.quo .i64) (.var 4) (.n 2))) (.var 4)) (.cons (.bin (.add .i64) (.bin (.sub .i64) (.var 9) (.bin (.quo .i64) (.var 5) (.n 2))) (.var 5)) .nil)))))))))))))))
theorem e20 : (fnVT Try.prog (sgOf sg20) (ltOf lt20) S20 Try.f20 c20).slim (S20.ps.map fun p => p.2.length).sum [] = vt20 := by kernel_rfl
def T20 : FuncId → List D → List D := tabOf [(33, fn33)]
def fn20 (ρ : List D) : List D := vt20.val T20 ρ
theorem m20 : Meets Try.prog 20 S20 (fun _ => True) fn20 := meets_easy (sgl := sg20) (Φ := T20) mixed (List.forall_mem_cons.2 ⟨m33, (fun _ h => nomatch h)⟩) Try.func20 b20 n20 k20 e20 (by kernel_rfl)
def S8 : Sig := ⟨[(true, [i6, i6, i6, i6]), (false, [i6]), (false, [i6]), (false, [i6])], [(false, [(.sl 35 [i6, i6, i6, i6])])], [], none⟩
noncomputable def c8 : Code := Try.f8.body.getD .skip
theorem b8 : Try.f8.body = some c8 := body_some (by kernel_rfl)
theorem n8 : (Try.f8.name == "runtime.NumGoroutine") = false := by kernel_rfl
def P8_0 : LoopSig := ⟨15019000, [],
   ⟨[(.agg [(.x i6 (.var 1)), (.x i6 (.var 2)), (.x i6 (.var 3)), (.x i6 (.var 4))]), (.c (.ptr 2 0)), .any, .any, .any, .any, .any, .any, .any],
    [none, none, some ⟨(.t true), (.box 28 [(.row 3 1)] false)⟩, some ⟨(.t true), (.row 35 [i6, i6, i6, i6] (.var 0) 1 false)⟩]⟩,
   5, [0], [0, 1, 2, 3, 4, 5, 6, 7, 8], [], [0]⟩
def Sp8_19 : Sig := ⟨[(false, []), (false, [])], [], [(P8_0, 1)], none⟩
def sg8 : List (FuncId × Sig) := [(17, S17), (18, S18), (20, S20), (19, Sp8_19), (15019000, ⟨[], [], [], some 2⟩)]
noncomputable def cp8_0 : Code := Try.f19.body.getD .skip
theorem bp8_0 : Try.f19.body = some cp8_0 := body_some (by kernel_rfl)
theorem np8_0 : (Try.f19.name == "runtime.NumGoroutine") = false := by kernel_rfl
def sgp8_0 : List (FuncId × Sig) := [(17, S17)]
def ltp8_0 : List (Nat × LoopSig) := []
theorem kp8_0 : (Code.loops cp8_0).length = 0 := by kernel_rfl
def pv8_0 : VT :=
  (.need (.t true) (.pre 17 (.cons (.var 1) (.cons (.var 2) (.cons (.var 3) (.cons (.var 4) .nil)))))
  (.lt (.app 17 (.cons (.var 1) (.cons (.var 2) (.cons (.var 3) (.cons (.var 4) .nil)))) 0) 1
  (.ite (.var 5)
   (.need (.t true) (.c (.bin .le (.un .len (.bin .cat (.var 0) (.lcons (.cons (.var 1) (.cons (.var 2) (.cons (.var 3) (.cons (.var 4) .nil)))) .lnil))) (.n 4398046511104)))
   (.ret (.cons (.n 0) (.cons (.bin .cat (.var 0) (.lcons (.cons (.var 1) (.cons (.var 2) (.cons (.var 3) (.cons (.var 4) .nil)))) .lnil)) .nil))))
   (.ret (.cons (.n 0) (.cons (.var 0) .nil))))))
theorem pe8_0 : (procVT Try.prog (sgOf sgp8_0) (ltOf ltp8_0) Sp8_19 P8_0 1 Try.f19 cp8_0).slim P8_0.nv [] = pv8_0 := by kernel_rfl
theorem pp8_0 : P8_0.head.plain = true := by kernel_rfl
theorem pl8_0 : P8_0.head.slots.length = Try.f19.ntmps := by kernel_rfl
def L8_0 : LoopSig := ⟨10800, [(2, some 0, 35)],
   ⟨[.any, (.c (.x i6 (.var 0))), (.c (.x i6 (.var 1))), (.c (.x i6 (.var 2))), (.c (.ptr 0 0)), .any, .any, .any, .any, .any, (.c (.fn 19 [(2, 0)])), .any, .any, .any, .any, .any, .any, .any, .any, .any, .any, .any, .any, .any, (.c (.x i6 (.var 3))), .any, .any, .any, .any, .any, .any, .any, .any, .any, .any, .any, .any],
    [some ⟨(.t true), (.box 35 [(.x i6 (.var 4)), (.x i6 (.var 5)), (.x i6 (.var 6)), (.x i6 (.var 7))] false)⟩, none, some ⟨(.t true), (.box 28 [(.row 3 1)] false)⟩, some ⟨(.t true), (.row 35 [i6, i6, i6, i6] (.var 8) 1 false)⟩]⟩,
   9, [3, 8], [25, 26, 11, 27, 28, 29, 30, 31, 32, 33, 34, 35, 24], [(.exit 0)], [8]⟩
def lt8 : List (Nat × LoopSig) := [(6, L8_0)]
theorem k8 : (Code.loops c8).length = 1 := by kernel_rfl
noncomputable def lb8_0 : Code := (Code.loops c8).getD 0 .skip
def rt8_0 : VT :=
  (.ite (.bin .lt (.var 3) (.n 8))
   (.need (.t true) (.pre 20 (.cons (.var 4) (.cons (.var 5) (.cons (.var 6) (.cons (.var 7) (.cons (.var 0) (.cons (.var 1) (.cons (.var 2) (.cons (.var 3) .nil)))))))))
   (.lt (.app 20 (.cons (.var 4) (.cons (.var 5) (.cons (.var 6) (.cons (.var 7) (.cons (.var 0) (.cons (.var 1) (.cons (.var 2) (.cons (.var 3) .nil)))))))) 0) 4
   (.need (.t true) (.pre 15019000 (.cons (.var 8) (.cons (.var 9) (.cons (.var 10) (.cons (.var 11) (.cons (.var 12) .nil))))))
   (.lt (.app 15019000 (.cons (.var 8) (.cons (.var 9) (.cons (.var 10) (.cons (.var 11) (.cons (.var 12) .nil))))) 0) 2
   (.ret (.cons (.n (-1)) (.cons (.bin (.add .i64) (.var 3) (.n 1)) (.cons (.var 14) .nil))))))))
   (.ret (.cons (.n 0) (.cons (.var 3) (.cons (.var 8) .nil)))))
theorem le8_0 : (loopVT Try.prog (sgOf sg8) (ltOf lt8) L8_0 lb8_0).slim L8_0.nv [] = rt8_0 := by kernel_rfl
theorem lf8_0 : (firstRegion lb8_0).bind (ltOf lt8) = some L8_0 := by kernel_rfl
theorem lk8_0 : (Code.loops lb8_0).length = 0 := by kernel_rfl
def vt8 : VT :=
  (.need (.t true) (.pre 17 (.cons (.var 0) (.cons (.var 1) (.cons (.var 2) (.cons (.var 3) .nil)))))
  (.lt (.app 17 (.cons (.var 0) (.cons (.var 1) (.cons (.var 2) (.cons (.var 3) .nil)))) 0) 1
  (.need (.var 7) (.pre 18 (.cons (.lcons (.cons (.var 4) .nil) (.lcons (.cons (.var 5) .nil) (.lcons (.cons (.var 6) .nil) .lnil))) .nil))
  (.lt (.app 18 (.cons (.lcons (.cons (.var 4) .nil) (.lcons (.cons (.var 5) .nil) (.lcons (.cons (.var 6) .nil) .lnil))) .nil) 0) 1
  (.ite (.ite (.un .not (.var 7)) (.t true) (.un .not (.var 8)))
   (.ret (.cons .lnil .nil))
   (.need (.t true) (.pre 10800 (.cons (.var 4) (.cons (.var 5) (.cons (.var 6) (.cons (.n 0) (.cons (.var 0) (.cons (.var 1) (.cons (.var 2) (.cons (.var 3) (.cons .lnil .nil))))))))))
   (.lt (.app 10800 (.cons (.var 4) (.cons (.var 5) (.cons (.var 6) (.cons (.n 0) (.cons (.var 0) (.cons (.var 1) (.cons (.var 2) (.cons (.var 3) (.cons .lnil .nil))))))))) 0) 3
   (.ret (.cons (.var 11) .nil)))))))))
theorem e8 : (fnVT Try.prog (sgOf sg8) (ltOf lt8) S8 Try.f8 c8).slim (S8.ps.map fun p => p.2.length).sum [] = vt8 := by kernel_rfl
def S22 : Sig := ⟨[(true, [i6, i6, i6, i6]), (false, [(.pt [i6, i6, i6, i6])])], [(false, [.bool])], [], none⟩
noncomputable def c22 : Code := Try.f22.body.getD .skip
theorem b22 : Try.f22.body = some c22 := body_some (by kernel_rfl)
theorem n22 : (Try.f22.name == "runtime.NumGoroutine") = false := by kernel_rfl
def sg22 : List (FuncId × Sig) := [(10, S10)]
def lt22 : List (Nat × LoopSig) := []
theorem k22 : (Code.loops c22).length = 0 := by kernel_rfl
def vt22 : VT :=
  (.need (.t true) (.pre 10 (.cons (.psel 0 (.var 4)) (.cons (.psel 1 (.var 4)) (.cons (.psel 2 (.var 4)) (.cons (.psel 3 (.var 4)) (.cons (.var 0) (.cons (.var 1) (.cons (.var 2) (.cons (.var 3) .nil)))))))))
  (.lt (.app 10 (.cons (.psel 0 (.var 4)) (.cons (.psel 1 (.var 4)) (.cons (.psel 2 (.var 4)) (.cons (.psel 3 (.var 4)) (.cons (.var 0) (.cons (.var 1) (.cons (.var 2) (.cons (.var 3) .nil)))))))) 0) 1
  (.ret (.cons (.var 5) .nil))))
theorem e22 : (fnVT Try.prog (sgOf sg22) (ltOf lt22) S22 Try.f22 c22).slim (S22.ps.map fun p => p.2.length).sum [] = vt22 := by kernel_rfl
def T22 : FuncId → List D → List D := tabOf [(10, fn10)]
def fn22 (ρ : List D) : List D := vt22.val T22 ρ
theorem m22 : Meets Try.prog 22 S22 (fun _ => True) fn22 := meets_easy (sgl := sg22) (Φ := T22) mixed (List.forall_mem_cons.2 ⟨m10, (fun _ h => nomatch h)⟩) Try.func22 b22 n22 k22 e22 (by kernel_rfl)
def S34 : Sig := ⟨[(false, [(.sl 35 [i6, i6, i6, i6])]), (false, [.clo])], [(false, [i6])], [], none⟩
noncomputable def c34 : Code := Try.f34.body.getD .skip
theorem b34 : Try.f34.body = some c34 := body_some (by kernel_rfl)
theorem n34 : (Try.f34.name == "runtime.NumGoroutine") = false := by kernel_rfl
def sg34 : List (FuncId × Sig) := [(20036, S20036)]
def L34_0 : LoopSig := ⟨13400, [],
   ⟨[(.c (.x (.sl 35 [i6, i6, i6, i6]) (.var 0))), (.c (.x .clo (.var 1))), .any, .any, (.c (.x i6 (.var 2))), .any, .any, (.c (.x i6 (.var 3))), (.c (.x i6 (.var 4))), .any, .any, .any, .any, .any, .any, .any, .any, .any, .any],
    []⟩,
   5, [2, 4], [9, 10, 5, 11, 12, 13, 14, 15, 16, 17, 4, 18, 8], [.ret, (.exit 0)], []⟩
def lt34 : List (Nat × LoopSig) := [(2, L34_0)]
theorem k34 : (Code.loops c34).length = 1 := by kernel_rfl
noncomputable def lb34_0 : Code := (Code.loops c34).getD 0 .skip
def rt34_0 : VT :=
  (.ite (.bin .lt (.var 4) (.var 3))
   (.need (.t true) (.c (.bin .le (.n 0) (.var 4)))
   (.need (.t true) (.c (.bin .lt (.var 4) (.un .len (.var 0))))
   (.need (.t true) (.pre 20036 (.cons (.var 1) (.cons (.sel 0 (.var 0) (.var 4)) (.cons (.sel 1 (.var 0) (.var 4)) (.cons (.sel 2 (.var 0) (.var 4)) (.cons (.sel 3 (.var 0) (.var 4)) .nil))))))
   (.lt (.app 20036 (.cons (.var 1) (.cons (.sel 0 (.var 0) (.var 4)) (.cons (.sel 1 (.var 0) (.var 4)) (.cons (.sel 2 (.var 0) (.var 4)) (.cons (.sel 3 (.var 0) (.var 4)) .nil))))) 0) 1
   (.ite (.var 5)
    (.ret (.cons (.n 0) (.cons (.var 4) (.cons (.var 4) .nil))))
    (.ret (.cons (.n (-1)) (.cons (.var 2) (.cons (.bin (.add .i64) (.var 4) (.n 1)) .nil)))))))))
   (.ret (.cons (.n 1) (.cons (.var 2) (.cons (.var 4) .nil)))))
theorem le34_0 : (loopVT Try.prog (sgOf sg34) (ltOf lt34) L34_0 lb34_0).slim L34_0.nv [] = rt34_0 := by kernel_rfl
theorem lf34_0 : (firstRegion lb34_0).bind (ltOf lt34) = some L34_0 := by kernel_rfl
theorem lk34_0 : (Code.loops lb34_0).length = 0 := by kernel_rfl
def vt34 : VT :=
  (.need (.t true) (.pre 13400 (.cons (.var 0) (.cons (.var 1) (.cons (.n 0) (.cons (.un .len (.var 0)) (.cons (.n 0) .nil))))))
  (.lt (.app 13400 (.cons (.var 0) (.cons (.var 1) (.cons (.n 0) (.cons (.un .len (.var 0)) (.cons (.n 0) .nil))))) 0) 3
  (.ite (.bin .eq (.var 2) (.n 0))
   (.ret (.cons (.var 3) .nil))
   (.ret (.cons (.n (-1)) .nil)))))
theorem e34 : (fnVT Try.prog (sgOf sg34) (ltOf lt34) S34 Try.f34 c34).slim (S34.ps.map fun p => p.2.length).sum [] = vt34 := by kernel_rfl
def S21 : Sig := ⟨[(false, [(.sl 35 [i6, i6, i6, i6])]), (false, [.clo])], [(false, [.bool])], [], none⟩
noncomputable def c21 : Code := Try.f21.body.getD .skip
theorem b21 : Try.f21.body = some c21 := body_some (by kernel_rfl)
theorem n21 : (Try.f21.name == "runtime.NumGoroutine") = false := by kernel_rfl
def sg21 : List (FuncId × Sig) := [(34, S34)]
def lt21 : List (Nat × LoopSig) := []
theorem k21 : (Code.loops c21).length = 0 := by kernel_rfl
def vt21 : VT :=
  (.need (.t true) (.pre 34 (.cons (.var 0) (.cons (.var 1) .nil)))
  (.lt (.app 34 (.cons (.var 0) (.cons (.var 1) .nil)) 0) 1
  (.ret (.cons (.bin .le (.n 0) (.var 2)) .nil))))
theorem e21 : (fnVT Try.prog (sgOf sg21) (ltOf lt21) S21 Try.f21 c21).slim (S21.ps.map fun p => p.2.length).sum [] = vt21 := by kernel_rfl
def S9 : Sig := ⟨[(false, [(.sl 35 [i6, i6, i6, i6])]), (false, [(.sl 35 [i6, i6, i6, i6])])], [(false, [(.sl 3 [i6])])], [], none⟩
noncomputable def c9 : Code := Try.f9.body.getD .skip
theorem b9 : Try.f9.body = some c9 := body_some (by kernel_rfl)
theorem n9 : (Try.f9.name == "runtime.NumGoroutine") = false := by kernel_rfl
def sg9 : List (FuncId × Sig) := [(17, S17), (21, S21)]
def L9_0 : LoopSig := ⟨10900, [(5, none, 3)],
   ⟨[.any, (.c (.x (.sl 35 [i6, i6, i6, i6]) (.var 0))), .any, .any, .any, (.c (.row 0 1)), .any, .any, (.c (.x (.sl 35 [i6, i6, i6, i6]) (.var 1))), (.c (.x i6 (.var 2))), (.c (.x i6 (.var 3))), .any, .any, .any, .any, .any, .any, .any, .any, .any, .any, .any, .any, .any, .any, .any, .any, .any, .any],
    [some ⟨(.t true), (.row 3 [i6] (.var 4) 1 false)⟩]⟩,
   5, [3, 4], [11, 12, 13, 14, 7, 6, 15, 16, 17, 18, 19, 20, 21, 22, 23, 24, 25, 26, 5, 27, 10], [(.exit 0)], [4]⟩
def lt9 : List (Nat × LoopSig) := [(3, L9_0)]
theorem k9 : (Code.loops c9).length = 1 := by kernel_rfl
noncomputable def lb9_0 : Code := (Code.loops c9).getD 0 .skip
def rt9_0 : VT :=
  (.ite (.bin .lt (.var 3) (.var 2))
   (.need (.t true) (.c (.bin .le (.n 0) (.var 3)))
   (.need (.t true) (.c (.bin .lt (.var 3) (.un .len (.var 1))))
   (.need (.t true) (.pre 17 (.cons (.sel 0 (.var 1) (.var 3)) (.cons (.sel 1 (.var 1) (.var 3)) (.cons (.sel 2 (.var 1) (.var 3)) (.cons (.sel 3 (.var 1) (.var 3)) .nil)))))
   (.lt (.app 17 (.cons (.sel 0 (.var 1) (.var 3)) (.cons (.sel 1 (.var 1) (.var 3)) (.cons (.sel 2 (.var 1) (.var 3)) (.cons (.sel 3 (.var 1) (.var 3)) .nil)))) 0) 1
   (.need (.var 5) (.pre 21 (.cons (.var 0) (.cons (.clo 22 [(.pt [i6, i6, i6, i6])] (.cons (.pk (.cons (.sel 0 (.var 1) (.var 3)) (.cons (.sel 1 (.var 1) (.var 3)) (.cons (.sel 2 (.var 1) (.var 3)) (.cons (.sel 3 (.var 1) (.var 3)) .nil))))) .nil)) .nil)))
   (.lt (.app 21 (.cons (.var 0) (.cons (.clo 22 [(.pt [i6, i6, i6, i6])] (.cons (.pk (.cons (.sel 0 (.var 1) (.var 3)) (.cons (.sel 1 (.var 1) (.var 3)) (.cons (.sel 2 (.var 1) (.var 3)) (.cons (.sel 3 (.var 1) (.var 3)) .nil))))) .nil)) .nil)) 0) 1
   (.ite (.ite (.var 5) (.un .not (.var 6)) (.t false))
    (.need (.t true) (.c (.bin .le (.un .len (.bin .cat (.var 4) (.lcons (.cons (.var 3) .nil) .lnil))) (.n 17592186044416)))
    (.ret (.cons (.n (-1)) (.cons (.bin (.add .i64) (.var 3) (.n 1)) (.cons (.bin .cat (.var 4) (.lcons (.cons (.var 3) .nil) .lnil)) .nil)))))
    (.ret (.cons (.n (-1)) (.cons (.bin (.add .i64) (.var 3) (.n 1)) (.cons (.var 4) .nil)))))))))))
   (.ret (.cons (.n 0) (.cons (.var 3) (.cons (.var 4) .nil)))))
theorem le9_0 : (loopVT Try.prog (sgOf sg9) (ltOf lt9) L9_0 lb9_0).slim L9_0.nv [] = rt9_0 := by kernel_rfl
theorem lf9_0 : (firstRegion lb9_0).bind (ltOf lt9) = some L9_0 := by kernel_rfl
theorem lk9_0 : (Code.loops lb9_0).length = 0 := by kernel_rfl
def vt9 : VT :=
  (.need (.t true) (.pre 10900 (.cons (.var 1) (.cons (.var 0) (.cons (.un .len (.var 0)) (.cons (.n 0) (.cons .lnil .nil))))))
  (.lt (.app 10900 (.cons (.var 1) (.cons (.var 0) (.cons (.un .len (.var 0)) (.cons (.n 0) (.cons .lnil .nil))))) 0) 3
  (.ret (.cons (.var 4) .nil))))
theorem e9 : (fnVT Try.prog (sgOf sg9) (ltOf lt9) S9 Try.f9 c9).slim (S9.ps.map fun p => p.2.length).sum [] = vt9 := by kernel_rfl
def S3 : Sig := ⟨[(false, [(.sl 9 [.str])]), (false, [i6]), (false, [i6])], [(false, [.bool])], [], none⟩
noncomputable def c3 : Code := Try.f3.body.getD .skip
theorem b3 : Try.f3.body = some c3 := body_some (by kernel_rfl)
theorem n3 : (Try.f3.name == "runtime.NumGoroutine") = false := by kernel_rfl
def sg3 : List (FuncId × Sig) := [(4, S4), (5, S5), (6, S6), (7, S7), (8, S8), (9, S9), (10, S10), (11, S11)]
def L3_0 : LoopSig := ⟨10300, [(7, none, 26)],
   ⟨[(.c (.x (.sl 9 [.str]) (.var 0))), .any, .any, .any, .any, .any, (.c (.x .bool (.var 1))), (.c (.row 0 1)), (.c (.x i6 (.var 2))), .any, .any, .any, .any, .any, .any, .any, .any, .any, .any, .any, .any, .any, .any, .any, .any, .any, .any, .any, .any, .any, .any, .any, .any, .any, .any, .any, .any, .any, .any, .any, .any, .any, .any, .any, .any, .any, .any, .any, .any, .any, .any, .any, .any, .any, .any, .any, .any, .any, .any, .any, .any, .any, .any, .any, .any, .any, .any, .any, .any, .any, .any, .any, .any, .any, .any, .any, .any, .any, .any, .any, .any, .any, .any, .any, .any, .any, .any, .any, .any, .any, .any, .any, .any, .any, .any, .any, .any, .any, .any, .any, .any, .any, .any, .any, .any, .any, .any, .any, .any, .any, .any, .any, .any, .any, .any, .any, .any, .any, .any, .any, .any, .any, .any, .any, .any, .any, .any, .any, .any, .any, .any, .any, .any, .any, .any, .any, .any, .any, .any, .any, .any, .any, .any, .any, .any, .any, .any, .any, .any, .any, .any, .any, .any, .any, .any, .any, .any, .any, .any, .any, .any, .any, .any, .any, .any, .any],
    [some ⟨(.t true), (.row 26 [i6, i6] (.var 3) 1 false)⟩]⟩,
   4, [1, 2, 3], [38, 39, 40, 41, 44, 45, 46, 47, 48, 49, 50, 6, 51, 52, 53, 54, 55, 56, 57, 58, 59, 7, 42, 43, 8], [.ret, (.exit 0)], [3]⟩
def L3_1 : LoopSig := ⟨10302, [],
   ⟨[.any, .any, .any, .any, .any, .any, (.c (.x .bool (.var 0))), .any, .any, (.c (.x (.sl 35 [i6, i6, i6, i6]) (.var 1))), .any, (.c (.x (.sl 35 [i6, i6, i6, i6]) (.var 2))), (.c (.x (.sl 3 [i6]) (.var 3))), (.c (.x i6 (.var 4))), .any, .any, .any, .any, .any, .any, .any, .any, .any, .any, .any, .any, .any, .any, .any, .any, .any, .any, .any, .any, .any, .any, .any, .any, .any, .any, .any, .any, .any, .any, .any, .any, .any, .any, .any, .any, .any, .any, .any, .any, .any, .any, .any, .any, .any, .any, .any, .any, .any, .any, .any, .any, .any, .any, .any, .any, .any, .any, .any, .any, .any, .any, .any, .any, .any, .any, .any, .any, .any, .any, .any, .any, .any, .any, .any, .any, .any, .any, .any, .any, .any, .any, .any, .any, .any, .any, .any, .any, .any, .any, .any, .any, .any, .any, .any, .any, .any, .any, .any, .any, .any, .any, .any, .any, .any, .any, .any, .any, .any, .any, .any, .any, .any, .any, .any, .any, .any, .any, .any, .any, .any, .any, .any, .any, .any, .any, .any, .any, .any, .any, .any, .any, .any, .any, .any, .any, .any, .any, .any, .any, .any, .any, .any, .any, .any, .any, .any, .any, .any, .any, .any, .any],
    []⟩,
   5, [0, 4], [90, 91, 92, 93, 96, 97, 98, 99, 100, 101, 102, 103, 104, 105, 106, 107, 108, 109, 6, 14, 110, 111, 112, 113, 116, 117, 118, 119, 120, 121, 122, 123, 124, 125, 126, 127, 114, 115, 94, 95, 13], [.ret, (.exit 2)], []⟩
def L3_2 : LoopSig := ⟨10301, [],
   ⟨[.any, .any, .any, .any, .any, .any, (.c (.x .bool (.var 0))), .any, .any, (.c (.x (.sl 35 [i6, i6, i6, i6]) (.var 1))), .any, (.c (.x (.sl 35 [i6, i6, i6, i6]) (.var 2))), (.c (.x (.sl 3 [i6]) (.var 3))), (.c (.x i6 (.var 4))), (.c (.x i6 (.var 5))), .any, .any, .any, .any, .any, .any, .any, .any, .any, .any, .any, .any, .any, .any, .any, .any, .any, .any, .any, .any, .any, .any, .any, .any, .any, .any, .any, .any, .any, .any, .any, .any, .any, .any, .any, .any, .any, .any, .any, .any, .any, .any, .any, .any, .any, .any, .any, .any, .any, .any, .any, .any, .any, .any, .any, .any, .any, .any, .any, .any, .any, .any, .any, .any, .any, .any, .any, .any, .any, .any, .any, .any, .any, .any, .any, .any, .any, .any, .any, .any, .any, .any, .any, .any, .any, .any, .any, .any, .any, .any, .any, .any, .any, .any, .any, .any, .any, .any, .any, .any, .any, .any, .any, .any, .any, .any, .any, .any, .any, .any, .any, .any, .any, .any, .any, .any, .any, .any, .any, .any, .any, .any, .any, .any, .any, .any, .any, .any, .any, .any, .any, .any, .any, .any, .any, .any, .any, .any, .any, .any, .any, .any, .any, .any, .any, .any, .any, .any, .any, .any, .any],
    []⟩,
   6, [0, 5], [110, 111, 112, 113, 116, 117, 118, 119, 120, 121, 122, 123, 124, 125, 126, 127, 6, 114, 115, 14], [.ret, (.exit 4)], []⟩
def L3_3 : LoopSig := ⟨10303, [],
   ⟨[(.c (.x (.sl 9 [.str]) (.var 0))), .any, .any, .any, .any, .any, (.c (.x .bool (.var 1))), .any, .any, (.c (.x (.sl 35 [i6, i6, i6, i6]) (.var 2))), .any, .any, .any, .any, .any, (.c (.x i6 (.var 3))), .any, .any, .any, .any, .any, .any, .any, .any, .any, .any, .any, .any, .any, .any, .any, .any, .any, .any, .any, .any, .any, .any, .any, .any, .any, .any, .any, .any, .any, .any, .any, .any, .any, .any, .any, .any, .any, .any, .any, .any, .any, .any, .any, .any, .any, .any, .any, .any, .any, .any, .any, .any, .any, .any, .any, .any, .any, .any, .any, .any, .any, .any, .any, .any, .any, .any, .any, .any, .any, .any, .any, .any, .any, .any, .any, .any, .any, .any, .any, .any, .any, .any, .any, .any, .any, .any, .any, .any, .any, .any, .any, .any, .any, .any, .any, .any, .any, .any, .any, .any, .any, .any, .any, .any, .any, .any, .any, .any, .any, .any, .any, .any, .any, .any, .any, .any, .any, .any, .any, .any, .any, .any, .any, .any, .any, .any, .any, .any, .any, .any, .any, .any, .any, .any, .any, .any, .any, .any, .any, .any, .any, .any, .any, .any, .any, .any, .any, .any, .any, .any],
    []⟩,
   4, [1, 3], [128, 129, 130, 131, 134, 135, 136, 137, 138, 139, 140, 141, 142, 143, 144, 145, 146, 147, 148, 149, 150, 151, 152, 153, 154, 155, 156, 157, 158, 159, 160, 161, 162, 163, 164, 6, 132, 133, 15], [.ret, (.exit 6)], []⟩
def lt3 : List (Nat × LoopSig) := [(5, L3_0), (16, L3_1), (21, L3_2), (26, L3_3)]
theorem k3 : (Code.loops c3).length = 4 := by kernel_rfl
noncomputable def lb3_0 : Code := (Code.loops c3).getD 0 .skip
noncomputable def lb3_1 : Code := (Code.loops c3).getD 1 .skip
noncomputable def lb3_2 : Code := (Code.loops c3).getD 2 .skip
noncomputable def lb3_3 : Code := (Code.loops c3).getD 3 .skip
def rt3_0 : VT :=
  (.ite (.bin .lt (.var 2) (.un .len (.var 0)))
   (.need (.t true) (.c (.bin .le (.n 0) (.var 2)))
   (.ite (.bin .lt (.n 20) (.un .slen (.sel 0 (.var 0) (.var 2))))
    (.need (.t true) (.pre 4 .nil)
    (.lt (.app 4 .nil 0) 1
    (.ret (.cons (.n 0) (.cons (.var 4) (.cons (.var 2) (.cons (.var 3) .nil)))))))
    (.need (.t true) (.pre 5 (.cons (.lcons (.cons (.sel 0 (.var 0) (.var 2)) .nil) .lnil) .nil))
    (.lt (.app 5 (.cons (.lcons (.cons (.sel 0 (.var 0) (.var 2)) .nil) .lnil) .nil) 0) 2
    (.need (.t true) (.c (.bin .le (.un .len (.bin .cat (.var 3) (.lcons (.cons (.var 4) (.cons (.var 5) .nil)) .lnil))) (.n 8796093022208)))
    (.ret (.cons (.n (-1)) (.cons (.var 1) (.cons (.bin (.add .i64) (.var 2) (.n 1)) (.cons (.bin .cat (.var 3) (.lcons (.cons (.var 4) (.cons (.var 5) .nil)) .lnil)) .nil))))))))))
   (.ret (.cons (.n 1) (.cons (.var 1) (.cons (.var 2) (.cons (.var 3) .nil))))))
theorem le3_0 : (loopVT Try.prog (sgOf sg3) (ltOf lt3) L3_0 lb3_0).slim L3_0.nv [] = rt3_0 := by kernel_rfl
theorem lf3_0 : (firstRegion lb3_0).bind (ltOf lt3) = some L3_0 := by kernel_rfl
theorem lk3_0 : (Code.loops lb3_0).length = 0 := by kernel_rfl
def rt3_1 : VT :=
  (.ite (.bin .lt (.var 4) (.un .len (.var 3)))
   (.need (.t true) (.c (.bin .le (.n 0) (.var 4)))
   (.ite (.ite (.bin .lt (.sel 0 (.var 3) (.var 4)) (.n 0)) (.t true) (.bin .le (.un .len (.var 2)) (.sel 0 (.var 3) (.var 4))))
    (.ret (.cons (.n 0) (.cons (.t false) (.cons (.var 4) .nil))))
    (.need (.t true) (.pre 10301 (.cons (.var 0) (.cons (.var 1) (.cons (.var 2) (.cons (.var 3) (.cons (.var 4) (.cons (.n 0) .nil)))))))
    (.lt (.app 10301 (.cons (.var 0) (.cons (.var 1) (.cons (.var 2) (.cons (.var 3) (.cons (.var 4) (.cons (.n 0) .nil)))))) 0) 3
    (.ite (.bin .eq (.var 5) (.n 0))
     (.ret (.cons (.n 0) (.cons (.var 6) (.cons (.var 4) .nil))))
     (.ret (.cons (.n (-1)) (.cons (.var 6) (.cons (.bin (.add .i64) (.var 4) (.n 1)) .nil)))))))))
   (.ret (.cons (.n 1) (.cons (.var 0) (.cons (.var 4) .nil)))))
theorem le3_1 : (loopVT Try.prog (sgOf sg3) (ltOf lt3) L3_1 lb3_1).slim L3_1.nv [] = rt3_1 := by kernel_rfl
theorem lf3_1 : (firstRegion lb3_1).bind (ltOf lt3) = some L3_1 := by kernel_rfl
theorem lk3_1 : (Code.loops lb3_1).length = 1 := by kernel_rfl
theorem li3_1_0 : (Code.loops lb3_1).getD 0 .skip = lb3_2 := by kernel_rfl
def rt3_2 : VT :=
  (.ite (.bin .lt (.var 5) (.un .len (.var 1)))
   (.need (.t true) (.c (.bin .le (.n 0) (.var 4)))
   (.need (.t true) (.c (.bin .lt (.var 4) (.un .len (.var 3))))
   (.need (.t true) (.c (.bin .le (.n 0) (.sel 0 (.var 3) (.var 4))))
   (.need (.t true) (.c (.bin .lt (.sel 0 (.var 3) (.var 4)) (.un .len (.var 2))))
   (.need (.t true) (.c (.bin .le (.n 0) (.var 5)))
   (.need (.t true) (.pre 10 (.cons (.sel 0 (.var 2) (.sel 0 (.var 3) (.var 4))) (.cons (.sel 1 (.var 2) (.sel 0 (.var 3) (.var 4))) (.cons (.sel 2 (.var 2) (.sel 0 (.var 3) (.var 4))) (.cons (.sel 3 (.var 2) (.sel 0 (.var 3) (.var 4))) (.cons (.sel 0 (.var 1) (.var 5)) (.cons (.sel 1 (.var 1) (.var 5)) (.cons (.sel 2 (.var 1) (.var 5)) (.cons (.sel 3 (.var 1) (.var 5)) .nil)))))))))
   (.lt (.app 10 (.cons (.sel 0 (.var 2) (.sel 0 (.var 3) (.var 4))) (.cons (.sel 1 (.var 2) (.sel 0 (.var 3) (.var 4))) (.cons (.sel 2 (.var 2) (.sel 0 (.var 3) (.var 4))) (.cons (.sel 3 (.var 2) (.sel 0 (.var 3) (.var 4))) (.cons (.sel 0 (.var 1) (.var 5)) (.cons (.sel 1 (.var 1) (.var 5)) (.cons (.sel 2 (.var 1) (.var 5)) (.cons (.sel 3 (.var 1) (.var 5)) .nil)))))))) 0) 1
   (.ite (.var 6)
    (.ret (.cons (.n 0) (.cons (.t false) (.cons (.var 5) .nil))))
    (.ret (.cons (.n (-1)) (.cons (.var 0) (.cons (.bin (.add .i64) (.var 5) (.n 1)) .nil))))))))))))
   (.ret (.cons (.n 1) (.cons (.var 0) (.cons (.var 5) .nil)))))
theorem le3_2 : (loopVT Try.prog (sgOf sg3) (ltOf lt3) L3_2 lb3_2).slim L3_2.nv [] = rt3_2 := by kernel_rfl
theorem lf3_2 : (firstRegion lb3_2).bind (ltOf lt3) = some L3_2 := by kernel_rfl
theorem lk3_2 : (Code.loops lb3_2).length = 0 := by kernel_rfl
def rt3_3 : VT :=
  (.ite (.bin .lt (.var 3) (.un .len (.var 0)))
   (.need (.t true) (.c (.bin .le (.n 0) (.var 3)))
   (.need (.t true) (.c (.bin .lt (.var 3) (.un .len (.var 2))))
   (.need (.t true) (.pre 11 (.cons (.sel 0 (.var 0) (.var 3)) .nil))
   (.lt (.app 11 (.cons (.sel 0 (.var 0) (.var 3)) .nil) 0) 1
   (.ite (.ite (.un .not (.bin .eq (.bin (.sub .i64) (.sel 2 (.var 2) (.var 3)) (.sel 0 (.var 2) (.var 3))) (.var 4))) (.t true) (.un .not (.bin .eq (.bin (.sub .i64) (.sel 3 (.var 2) (.var 3)) (.sel 1 (.var 2) (.var 3))) (.n 1000))))
    (.ret (.cons (.n 0) (.cons (.t false) (.cons (.var 3) .nil))))
    (.ret (.cons (.n (-1)) (.cons (.var 1) (.cons (.bin (.add .i64) (.var 3) (.n 1)) .nil)))))))))
   (.ret (.cons (.n 1) (.cons (.var 1) (.cons (.var 3) .nil)))))
theorem le3_3 : (loopVT Try.prog (sgOf sg3) (ltOf lt3) L3_3 lb3_3).slim L3_3.nv [] = rt3_3 := by kernel_rfl
theorem lf3_3 : (firstRegion lb3_3).bind (ltOf lt3) = some L3_3 := by kernel_rfl
theorem lk3_3 : (Code.loops lb3_3).length = 0 := by kernel_rfl
def vt3 : VT :=
  (.ite (.ite (.ite (.ite (.ite (.bin .lt (.n 8) (.un .len (.var 0))) (.t true) (.bin .lt (.var 1) (.n 0))) (.t true) (.bin .lt (.n 100000) (.var 1))) (.t true) (.bin .lt (.var 2) (.n 0))) (.t true) (.bin .le (.un .len (.var 0)) (.var 2)))
   (.need (.t true) (.pre 4 .nil)
   (.lt (.app 4 .nil 0) 1
   (.ret (.cons (.var 3) .nil))))
   (.need (.t true) (.pre 10300 (.cons (.var 0) (.cons (.t false) (.cons (.n 0) (.cons .lnil .nil)))))
   (.lt (.app 10300 (.cons (.var 0) (.cons (.t false) (.cons (.n 0) (.cons .lnil .nil)))) 0) 4
   (.ite (.bin .eq (.var 3) (.n 0))
    (.ret (.cons (.var 4) .nil))
    (.need (.t true) (.pre 6 (.cons (.var 6) (.cons (.var 1) .nil)))
    (.lt (.app 6 (.cons (.var 6) (.cons (.var 1) .nil)) 0) 2
    (.need (.un .not (.ite (.un .not (.bin .eq (.var 8) (.n 0))) (.t true) (.un .not (.bin .eq (.un .len (.var 7)) (.un .len (.var 0)))))) (.pre 7 (.cons (.var 7) (.cons (.var 1) .nil)))
    (.lt (.app 7 (.cons (.var 7) (.cons (.var 1) .nil)) 0) 1
    (.ite (.ite (.ite (.un .not (.bin .eq (.var 8) (.n 0))) (.t true) (.un .not (.bin .eq (.un .len (.var 7)) (.un .len (.var 0))))) (.t true) (.un .not (.var 9)))
     (.ret (.cons (.t false) .nil))
     (.need (.t true) (.c (.bin .le (.n 0) (.var 2)))
     (.need (.t true) (.c (.bin .lt (.var 2) (.un .len (.var 7))))
     (.need (.t true) (.pre 8 (.cons (.sel 0 (.var 7) (.var 2)) (.cons (.sel 1 (.var 7) (.var 2)) (.cons (.sel 2 (.var 7) (.var 2)) (.cons (.sel 3 (.var 7) (.var 2)) (.cons (.n 600) (.cons (.n 1000) (.cons (.var 1) .nil))))))))
     (.lt (.app 8 (.cons (.sel 0 (.var 7) (.var 2)) (.cons (.sel 1 (.var 7) (.var 2)) (.cons (.sel 2 (.var 7) (.var 2)) (.cons (.sel 3 (.var 7) (.var 2)) (.cons (.n 600) (.cons (.n 1000) (.cons (.var 1) .nil))))))) 0) 1
     (.need (.t true) (.pre 9 (.cons (.var 10) (.cons (.var 7) .nil)))
     (.lt (.app 9 (.cons (.var 10) (.cons (.var 7) .nil)) 0) 1
     (.need (.t true) (.pre 10302 (.cons (.var 4) (.cons (.var 7) (.cons (.var 10) (.cons (.var 11) (.cons (.n 0) .nil))))))
     (.lt (.app 10302 (.cons (.var 4) (.cons (.var 7) (.cons (.var 10) (.cons (.var 11) (.cons (.n 0) .nil))))) 0) 3
     (.ite (.bin .eq (.var 12) (.n 0))
      (.ret (.cons (.var 13) .nil))
      (.need (.t true) (.pre 10303 (.cons (.var 0) (.cons (.var 13) (.cons (.var 7) (.cons (.n 0) .nil)))))
      (.lt (.app 10303 (.cons (.var 0) (.cons (.var 13) (.cons (.var 7) (.cons (.n 0) .nil)))) 0) 3
      (.ite (.bin .eq (.var 15) (.n 0))
       (.ret (.cons (.var 16) .nil))
       (.need (.t true) (.pre 4 .nil)
       (.lt (.app 4 .nil 0) 1
       (.ret (.cons (.var 18) .nil)))))))))))))))))))))))))
theorem e3 : (fnVT Try.prog (sgOf sg3) (ltOf lt3) S3 Try.f3 c3).slim (S3.ps.map fun p => p.2.length).sum [] = vt3 := by kernel_rfl
end Go.Proofs.Ytoajdhghecjdlaa.rv
