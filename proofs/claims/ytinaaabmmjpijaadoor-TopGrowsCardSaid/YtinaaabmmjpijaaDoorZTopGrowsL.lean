/-
 math/bits.TrailingZeros64: the library's contract; TrailingZeros32 is never called.
-/
import Derived.Shelf.Lays7
import Derived.Shelf.Spec.TrailingZeros
import Derived.Test.YtinaaabmmjpijaaDoorZTopGrowsK
namespace Go.Proofs
open Go.Shelf
def Tryd.lays29_ren : Go.Shelf.Ren := ⟨fun | 29 => 89 | n => n, fun | 22 => 132 | 3 => 3 | 4 => 4 | 25 => 124 | 54 => 134 | 0 => 0 | 5 => 5 | n => n, fun | 1 => 1 | n => n⟩
theorem Tryd.lays29 : Go.Proofs.Lays7.n29 Tryd.prog Tryd.lays29_ren := {
 mixed := by kernel_rfl
 f29 := Tryd.func89.trans (congrArg some (by kernel_rfl))
 t0 := Tryd.underlying0
 a0 := Tryd.isAgg0
 z0 := Tryd.sizeOf0
 v0 := Tryd.zeroValue0
 i0 := by kernel_rfl
 t3 := Tryd.underlying3
 a3 := Tryd.isAgg3
 z3 := Tryd.sizeOf3
 v3 := Tryd.zeroValue3
 i3 := by kernel_rfl
 t4 := Tryd.underlying4
 a4 := Tryd.isAgg4
 z4 := Tryd.sizeOf4
 v4 := Tryd.zeroValue4
 i4 := by kernel_rfl
 t5 := Tryd.underlying5
 a5 := Tryd.isAgg5
 z5 := Tryd.sizeOf5
 v5 := Tryd.zeroValue5
 i5 := by kernel_rfl
 t22 := Tryd.underlying132
 a22 := Tryd.isAgg132
 z22 := Tryd.sizeOf132
 v22 := Tryd.zeroValue132
 i22 := by kernel_rfl
 t25 := Tryd.underlying124
 a25 := Tryd.isAgg124
 z25 := Tryd.sizeOf124
 v25 := Tryd.zeroValue124
 i25 := by kernel_rfl
 t54 := Tryd.underlying134
 a54 := Tryd.isAgg134
 z54 := Tryd.sizeOf134
 g1 := by kernel_rfl }
end Go.Proofs
namespace Go.Proofs.YtinaaabmmjpijaaDoor.rv
set_option maxRecDepth 10000
open Go.RV Go.RowKit
def tzD (ds : List D) : List D := [.i (Lib.ctz 64 (ds.getD 0 default).int.toNat)]
def tzPre (ds : List D) : Prop := ∃ x : Nat, ds = [.i x] ∧ x < 18446744073709551616
theorem m89 : Meets Tryd.prog 89 S89 tzPre tzD := by
 refine MeetsFn.meets ⟨fun args w => ?_, fun w F vs ds hF hT hA hp => ?_⟩ (by decide)
 ·have h1 : Tryd.f89.name ≠ "runtime.NumGoroutine" := by simpa using n89
  simp [callFunc, Tryd.func89, h1, b89]
 obtain ⟨x, rfl, hx⟩ := hp
 match vs, hA with
 | [v], hA =>
  obtain ⟨d1, d2, he, ⟨us, h1, h2⟩, h3⟩ := hA
  have h3 : d2 = [] := h3
  subst h3
  rw [List.append_nil] at he
  subst he
  have h1 : us = [v] := h1
  subst h1
  obtain ⟨hv, hd, hb1, hb2⟩ := rep_int h2.1
  simp only [D.int_i] at hv
  subst hv
  have htab : TabAt 1 Lib.deBruijn64tab w := (hT (1, Lib.deBruijn64tab) (by simp [tabs])).2
  refine (Any7.bits_TrailingZeros64 Tryd.lays29 x hx w fun _ => htab).mono fun e w' ⟨he, hw⟩ => ?_
  subst hw
  refine ⟨_, F, [], he, ⟨[_], rfl, ?_, trivial⟩, ⟨fun u hu => by simp at hu, List.Pairwise.nil⟩, fun _ h => h, fun b hb => ⟨.inl hb, hF b hb⟩, Below.refl _ w'⟩
  simp only [gz0, D.int_i, tn0]
  have : Lib.ctz 64 x ≤ 64 := by
   unfold Lib.ctz
   split
   ·exact Nat.le_refl _
   ·have : ∀ (f x : Nat), Lib.ctzFrom f x ≤ f := by
     intro f
     induction f with
     | zero => intro x; exact Nat.le_refl _
     | succ f ih => intro x; unfold Lib.ctzFrom; split <;> first | omega | (have := ih (x / 2); omega)
    exact this 64 x
  have e1 : IntKind.i64.min = -9223372036854775808 := by decide
  have e2 : IntKind.i64.max = 9223372036854775807 := by decide
  exact Rep.int ⟨by rw [e1]; omega, by rw [e2]; omega⟩
theorem m88 : Meets Tryd.prog 88 S88 (fun _ => False) tzD := meets_none Tryd.func88 b88 n88
end Go.Proofs.YtinaaabmmjpijaaDoor.rv
