/-
  RV, part 22: slices.Clone and slices.Delete, walked.
-/
import Derived.Test.YthnilbkkihmpoaaRvHand1
import Derived.Test.YthnilbkkihmpoaaRvFns
namespace Go.Proofs.Ythnilbkkihmpoaa.rv
open Go.RV Go.RowKit Go.Lib


set_option maxHeartbeats 1000000 in
theorem cloneNil44 (w : World) : Calls Try.prog 44 #[.slice none 0 0] w fun e w' => e = .returned (.slice none 0 0) ∧ w' = w := by
  have t22 : Try.prog.underlying 27 = some (.slice 75) := by kernel_rfl
  have q22 : ∀ (w : World) (a : Option Addr) (n c n' c' : Nat), (binOp .eql 27 (.slice a n c) (.slice none n' c')).run Try.prog w = .ok (.bool a.isNone) w := fun w a n c n' c' => Lib.run_eql_slice_nil w _ _ a n c n' c' t22
  go_enter Try.func44, Try.ntmps44
  go_wp2
  go_ret
  exact ⟨rfl, rfl⟩
set_option maxHeartbeats 2000000 in
set_option maxRecDepth 100000 in
theorem cloneSome44 (w : World) (q : Addr) (n c : Nat) (news : List Value) (hl : news.length = n * 2) (hc : ∀ j u, news[j]? = some u → w.cell? (q.add j) = some u) (h1 : ∀ u ∈ news, u.oneCell' = true) (hn : n ≤ 1000000) :
      Calls Try.prog 44 #[.slice (some q) n c] w fun e' w' => ∃ v', e' = .returned v' ∧ w'.ownsRow w.heap.size 75 2 v' n news ∧ Below w.heap.size w w' := by
  have t22 : Try.prog.underlying 27 = some (.slice 75) := by kernel_rfl
  obtain ⟨i0, z, hi, hz0, hz1, hzs, hby, hsz⟩ := infoOk_spec (P := Try.prog) (e := 75) (k := 2) (by kernel_rfl)
  have q22 : ∀ (w : World) (a : Option Addr) (n c n' c' : Nat), (binOp .eql 27 (.slice a n c) (.slice none n' c')).run Try.prog w = .ok (.bool a.isNone) w := fun w a n c n' c' => Lib.run_eql_slice_nil w _ _ a n c n' c' t22
  have z23 : ∀ w, (Go.sizeOf 75).run Try.prog w = .ok 2 w := fun w => by simp [sizeOf, typeInfo, hi, hz1]
  have hbig : n * i0.bytes ≤ 140737488355328 := by
    have := Nat.mul_le_mul hn hby
    omega
  have A : Aside (∀ j u, news[j]? = some u → w.cell? (q.add j) = some u) := hc
  clear hc
  go_enter Try.func44, Try.ntmps44
  go_wp2_with (at_builtin; refine wpList_append_own _ rfl _ _ 27 rfl w.heap.size 75 i0 z 2 i0.bytes t22 hi hz0 hz1 rfl hzs hsz _ _ _ rfl (World.ownsRow_made w #[] 0 (Nat.le_refl _) (Nat.zero_le _) (by simp)) q n c news rfl ?qc1 ?qc2 ?qc3 ?qc4 ?qc5 ?qc6 ?_)
  case qc1 => exact hl
  case qc2 =>
    intro j u hj
    exact Lib.cell?_alloc_some _ (A.out j u hj)
  case qc3 => exact h1
  case qc4 => rw [Nat.zero_add]; unfold maxLen; omega
  case qc5 => rw [Nat.zero_add]; exact hbig
  case qc6 => simp
  intro v' w1 hown hgrow hnil
  go_wp2
  go_ret
  refine ⟨v', rfl, by simpa using hown, ?_⟩
  exact ((Below.refl _ w).alloc (Nat.le_refl _) _).grown hgrow (by simp) (by intro k hk; simp [Value.ownBlock] at hk; omega)
theorem m44 : Meets Try.prog 44 S44 clonePre cloneD := clone_meets rfl rfl (by decide) (enter_of Try.func44 b44 n44) cloneNil44 cloneSome44
set_option maxHeartbeats 1000000 in
theorem cloneNil42 (w : World) : Calls Try.prog 42 #[.slice none 0 0] w fun e w' => e = .returned (.slice none 0 0) ∧ w' = w := by
  have t22 : Try.prog.underlying 23 = some (.slice 31) := by kernel_rfl
  have q22 : ∀ (w : World) (a : Option Addr) (n c n' c' : Nat), (binOp .eql 23 (.slice a n c) (.slice none n' c')).run Try.prog w = .ok (.bool a.isNone) w := fun w a n c n' c' => Lib.run_eql_slice_nil w _ _ a n c n' c' t22
  go_enter Try.func42, Try.ntmps42
  go_wp2
  go_ret
  exact ⟨rfl, rfl⟩
set_option maxHeartbeats 2000000 in
set_option maxRecDepth 100000 in
theorem cloneSome42 (w : World) (q : Addr) (n c : Nat) (news : List Value) (hl : news.length = n * 7) (hc : ∀ j u, news[j]? = some u → w.cell? (q.add j) = some u) (h1 : ∀ u ∈ news, u.oneCell' = true) (hn : n ≤ 1000000) :
      Calls Try.prog 42 #[.slice (some q) n c] w fun e' w' => ∃ v', e' = .returned v' ∧ w'.ownsRow w.heap.size 31 7 v' n news ∧ Below w.heap.size w w' := by
  have t22 : Try.prog.underlying 23 = some (.slice 31) := by kernel_rfl
  obtain ⟨i0, z, hi, hz0, hz1, hzs, hby, hsz⟩ := infoOk_spec (P := Try.prog) (e := 31) (k := 7) (by kernel_rfl)
  have q22 : ∀ (w : World) (a : Option Addr) (n c n' c' : Nat), (binOp .eql 23 (.slice a n c) (.slice none n' c')).run Try.prog w = .ok (.bool a.isNone) w := fun w a n c n' c' => Lib.run_eql_slice_nil w _ _ a n c n' c' t22
  have z23 : ∀ w, (Go.sizeOf 31).run Try.prog w = .ok 7 w := fun w => by simp [sizeOf, typeInfo, hi, hz1]
  have hbig : n * i0.bytes ≤ 140737488355328 := by
    have := Nat.mul_le_mul hn hby
    omega
  have A : Aside (∀ j u, news[j]? = some u → w.cell? (q.add j) = some u) := hc
  clear hc
  go_enter Try.func42, Try.ntmps42
  go_wp2_with (at_builtin; refine wpList_append_own _ rfl _ _ 23 rfl w.heap.size 31 i0 z 7 i0.bytes t22 hi hz0 hz1 rfl hzs hsz _ _ _ rfl (World.ownsRow_made w #[] 0 (Nat.le_refl _) (Nat.zero_le _) (by simp)) q n c news rfl ?qc1 ?qc2 ?qc3 ?qc4 ?qc5 ?qc6 ?_)
  case qc1 => exact hl
  case qc2 =>
    intro j u hj
    exact Lib.cell?_alloc_some _ (A.out j u hj)
  case qc3 => exact h1
  case qc4 => rw [Nat.zero_add]; unfold maxLen; omega
  case qc5 => rw [Nat.zero_add]; exact hbig
  case qc6 => simp
  intro v' w1 hown hgrow hnil
  go_wp2
  go_ret
  refine ⟨v', rfl, by simpa using hown, ?_⟩
  exact ((Below.refl _ w).alloc (Nat.le_refl _) _).grown hgrow (by simp) (by intro k hk; simp [Value.ownBlock] at hk; omega)
theorem m42 : Meets Try.prog 42 S42 clonePre cloneD := clone_meets rfl rfl (by decide) (enter_of Try.func42 b42 n42) cloneNil42 cloneSome42
set_option maxHeartbeats 1000000 in
theorem cloneNil43 (w : World) : Calls Try.prog 43 #[.slice none 0 0] w fun e w' => e = .returned (.slice none 0 0) ∧ w' = w := by
  have t22 : Try.prog.underlying 24 = some (.slice 61) := by kernel_rfl
  have q22 : ∀ (w : World) (a : Option Addr) (n c n' c' : Nat), (binOp .eql 24 (.slice a n c) (.slice none n' c')).run Try.prog w = .ok (.bool a.isNone) w := fun w a n c n' c' => Lib.run_eql_slice_nil w _ _ a n c n' c' t22
  go_enter Try.func43, Try.ntmps43
  go_wp2
  go_ret
  exact ⟨rfl, rfl⟩
set_option maxHeartbeats 2000000 in
set_option maxRecDepth 100000 in
theorem cloneSome43 (w : World) (q : Addr) (n c : Nat) (news : List Value) (hl : news.length = n * 2) (hc : ∀ j u, news[j]? = some u → w.cell? (q.add j) = some u) (h1 : ∀ u ∈ news, u.oneCell' = true) (hn : n ≤ 1000000) :
      Calls Try.prog 43 #[.slice (some q) n c] w fun e' w' => ∃ v', e' = .returned v' ∧ w'.ownsRow w.heap.size 61 2 v' n news ∧ Below w.heap.size w w' := by
  have t22 : Try.prog.underlying 24 = some (.slice 61) := by kernel_rfl
  obtain ⟨i0, z, hi, hz0, hz1, hzs, hby, hsz⟩ := infoOk_spec (P := Try.prog) (e := 61) (k := 2) (by kernel_rfl)
  have q22 : ∀ (w : World) (a : Option Addr) (n c n' c' : Nat), (binOp .eql 24 (.slice a n c) (.slice none n' c')).run Try.prog w = .ok (.bool a.isNone) w := fun w a n c n' c' => Lib.run_eql_slice_nil w _ _ a n c n' c' t22
  have z23 : ∀ w, (Go.sizeOf 61).run Try.prog w = .ok 2 w := fun w => by simp [sizeOf, typeInfo, hi, hz1]
  have hbig : n * i0.bytes ≤ 140737488355328 := by
    have := Nat.mul_le_mul hn hby
    omega
  have A : Aside (∀ j u, news[j]? = some u → w.cell? (q.add j) = some u) := hc
  clear hc
  go_enter Try.func43, Try.ntmps43
  go_wp2_with (at_builtin; refine wpList_append_own _ rfl _ _ 24 rfl w.heap.size 61 i0 z 2 i0.bytes t22 hi hz0 hz1 rfl hzs hsz _ _ _ rfl (World.ownsRow_made w #[] 0 (Nat.le_refl _) (Nat.zero_le _) (by simp)) q n c news rfl ?qc1 ?qc2 ?qc3 ?qc4 ?qc5 ?qc6 ?_)
  case qc1 => exact hl
  case qc2 =>
    intro j u hj
    exact Lib.cell?_alloc_some _ (A.out j u hj)
  case qc3 => exact h1
  case qc4 => rw [Nat.zero_add]; unfold maxLen; omega
  case qc5 => rw [Nat.zero_add]; exact hbig
  case qc6 => simp
  intro v' w1 hown hgrow hnil
  go_wp2
  go_ret
  refine ⟨v', rfl, by simpa using hown, ?_⟩
  exact ((Below.refl _ w).alloc (Nat.le_refl _) _).grown hgrow (by simp) (by intro k hk; simp [Value.ownBlock] at hk; omega)
theorem m43 : Meets Try.prog 43 S43 clonePre cloneD := clone_meets rfl rfl (by decide) (enter_of Try.func43 b43 n43) cloneNil43 cloneSome43

end Go.Proofs.Ythnilbkkihmpoaa.rv
