/-
  RV, part 22: slices.Delete, walked.
-/
import Derived.Test.YthnilbkkihmpoaaRvHand1
import Derived.Test.YthnilbkkihmpoaaRvFns
namespace Go.Proofs.Ythnilbkkihmpoaa.rv
open Go.RV Go.RowKit Go.Lib


set_option maxHeartbeats 4000000 in
set_option maxRecDepth 1000000 in
theorem delWalk25 (w : World) (g n cap i j : Nat) (cur : Array Value) (hg : w.heap[g]? = some (.cells cur 29 (0, 0))) (hnc : n ≤ cap) (_hcm : cap ≤ maxLen) (hcs : cur.size = cap * 6) (hlt : i < j) (hj : j ≤ n)
    (h1 : ∀ u ∈ (cur.toList.drop (j * 6)).take ((n - j) * 6), u.oneCell' = true) :
      Calls Try.prog 25 #[.slice (some ⟨g, 0, none⟩) n cap, .int .i64 i, .int .i64 j] w fun e' w' => ∃ zs : List Value, zs.length = (j - i) * 6 ∧ e' = .returned (.slice (some ⟨g, 0, none⟩) (i + (n - j)) cap) ∧
        w' = (w.drew.setCells g (0 + i * 6) ((cur.toList.drop (j * 6)).take ((n - j) * 6))).setCells g (0 + (i + (n - j)) * 6) zs := by
  have t22 : Try.prog.underlying 22 = some (.slice 29) := by kernel_rfl
  obtain ⟨i0, z, hi, hz0, hz1, hzs, hby, hsz⟩ := infoOk_spec (P := Try.prog) (e := 29) (k := 6) (by kernel_rfl)
  have z23 : ∀ w, (Go.sizeOf 29).run Try.prog w = .ok 6 w := fun w => by simp [sizeOf, typeInfo, hi, hz1]
  have hv : ∀ w, (zeroValue 29).run Try.prog w = .ok z w := fun w => by simp [zeroValue, typeInfo, hi, hz0]
  have hzo : ∀ u ∈ z.cells.toList, u.oneCell' = true := by
    have h : (match Try.prog.info? 29 with | some i => (match i.zero with | some z => z.cells.toList.all (·.oneCell') | none => false) | none => false) = true := by kernel_rfl
    rw [hi] at h
    simp only [hz0] at h
    exact fun u hu => List.all_eq_true.1 h u hu
  obtain ⟨news, hnews⟩ : ∃ news, news = (cur.toList.drop (j * 6)).take ((n - j) * 6) := ⟨_, rfl⟩
  rw [← hnews]
  rw [← hnews] at h1
  have hnk : n * 6 ≤ cap * 6 := Nat.mul_le_mul_right _ hnc
  have hlen : news.length = (n - j) * 6 := by rw [hnews]; simp; omega
  have hget : ∀ t, t < (n - j) * 6 → news[t]? = cur[j * 6 + t]? := by
    intro t ht
    rw [hnews, List.getElem?_take, if_pos ht, List.getElem?_drop, Array.getElem?_toList]
  have hcell : ∀ t, t < cur.size → w.cell? ⟨g, t, none⟩ = cur[t]? := fun t ht => by rw [cell_at hg]
  have hfro : ∀ t, w.frozen? ⟨g, t, none⟩ = false := fun t => by simp [World.frozen?, hg]
  obtain ⟨A, hA, hsrc⟩ : ∃ A : Addr, (if cap = j then some (⟨g, 0, none⟩ : Addr) else some ⟨g, 0 + j * 6, none⟩) = some A ∧ Hid (∀ t u, news[t]? = some u → w.drew.cell? (A.add t) = some u) := by
    by_cases h : cap = j
    · refine ⟨⟨g, 0, none⟩, by simp [h], fun t u hu => ?_⟩
      have h0 : news.length = 0 := by rw [hlen]; omega
      rw [List.length_eq_zero_iff.1 h0] at hu
      simp at hu
    · refine ⟨⟨g, 0 + j * 6, none⟩, by simp [h], fun t u hu => ?_⟩
      have ht : t < (n - j) * 6 := by
        have := (List.getElem?_eq_some_iff.1 hu).1
        rwa [hlen] at this
      rw [hget t ht] at hu
      rw [Addr.add_lit]
      show w.cell? _ = some u
      rw [hcell _ (by have := (Array.getElem?_eq_some_iff.1 hu).1; omega), ← hu]
      congr 1
      omega
  have s1 : Hid (news.length = (n - j) * 6) := hlen
  have s2 : Hid (∀ u ∈ news, u.oneCell' = true) := h1
  have s3 : Hid (∀ t, t < news.length → (w.drew.cell? ⟨g, 0 + i * 6 + t, none⟩).isSome = true ∧ w.drew.frozen? ⟨g, 0 + i * 6 + t, none⟩ = false) := by
    intro t ht
    rw [hlen] at ht
    have hlt' : 0 + i * 6 + t < cur.size := by omega
    refine ⟨?_, hfro _⟩
    show (w.cell? _).isSome = true
    rw [hcell _ hlt', Array.getElem?_eq_getElem hlt']
    rfl
  obtain ⟨W1, hW1⟩ : ∃ W1, W1 = w.drew.setCells g (0 + i * 6) news := ⟨_, rfl⟩
  have hgd : w.drew.heap[g]? = some (.cells cur 29 (0, 0)) := hg
  obtain ⟨c1, p1, p2, p3⟩ := setCells_heap news (0 + i * 6) w.drew g cur 29 (0, 0) hgd (by rw [hlen]; omega)
  rw [← hW1] at p1
  have hcl : ∀ ty, (Builtin.clear_ #[22] ty #[.slice (some ⟨g, 0 + (i + (n - j)) * 6, none⟩) (n - (i + (n - j))) (cap - (i + (n - j)))]).run Try.prog W1 = .ok (.tuple #[]) (W1.setCells g (0 + (i + (n - j)) * 6) (Builtin.zeroCells z.cells (n - (i + (n - j)))).toList) :=
    fun ty => run_clear W1 _ 29 ty z t22 (hv W1) hzo (by omega) g (0 + (i + (n - j)) * 6) _ _ (by omega)
      (fun t ht => by
        rw [hzs] at ht
        have hlt' : 0 + (i + (n - j)) * 6 + t < c1.size := by rw [p2]; omega
        rw [cell_at p1, Array.getElem?_eq_getElem hlt']; rfl)
      (fun t ht => by simp [World.frozen?, p1])
  have X : Aside ((Builtin.zeroCells z.cells (n - (i + (n - j)))).toList.length = (j - i) * 6) := by
    show (Builtin.zeroCells z.cells (n - (i + (n - j)))).toList.length = (j - i) * 6
    simp [Builtin.zeroCells, hzs]
    omega
  have hW : Hid (W1 = w.drew.setCells g (0 + i * 6) news) := hW1
  have hic : i ≤ cap := by omega
  have hjc : j ≤ cap := by omega
  have mixed := mixed
  obtain ⟨zl, hzl⟩ : ∃ zl, zl = (Builtin.zeroCells z.cells (n - (i + (n - j)))).toList := ⟨_, rfl⟩
  have X2 : Aside (zl.length = (j - i) * 6) := by rw [hzl]; exact X
  rw [← hzl] at hcl
  simp only [Nat.zero_add] at hcl
  clear X hzl hzo hzs hv hz0
  clear hW1 hg hget hnews hlen hcell hfro p1 p3 hgd
  go_enter Try.func25, Try.ntmps25
  go_wp2_with fail
  go_region_law_o (refine step_append_room rfl (.tmp 22) (.tmp 25) 22 rfl 29 i0 6 t22 hi hz1 g 0 i cap (by simp [Act.eval, Act.put]) A (n - j) (cap - j) news (by simp [Act.eval, Act.put]; simpa using hA) s1.out hsrc.out s2.out (by omega) s3.out ?_; rw [← hW.out])
  go_wp2
  all_goals (go_ret; exact ⟨zl, by have := X2.out; omega, rfl, by have hw := hW.out; simp only [Nat.zero_add] at hw; rw [hw]⟩)
theorem m25 : MeetsRow Try.prog 25 S25 (29, ctsRow S25, [(false, [.int .i64]), (false, [.int .i64])]) delPre delD := delete_meets (S := S25) (cts := ctsRow S25) rfl (by decide) (enter_of Try.func25 b25 n25) delWalk25
set_option maxHeartbeats 4000000 in
set_option maxRecDepth 1000000 in
theorem delWalk27 (w : World) (g n cap i j : Nat) (cur : Array Value) (hg : w.heap[g]? = some (.cells cur 31 (0, 0))) (hnc : n ≤ cap) (_hcm : cap ≤ maxLen) (hcs : cur.size = cap * 7) (hlt : i < j) (hj : j ≤ n)
    (h1 : ∀ u ∈ (cur.toList.drop (j * 7)).take ((n - j) * 7), u.oneCell' = true) :
      Calls Try.prog 27 #[.slice (some ⟨g, 0, none⟩) n cap, .int .i64 i, .int .i64 j] w fun e' w' => ∃ zs : List Value, zs.length = (j - i) * 7 ∧ e' = .returned (.slice (some ⟨g, 0, none⟩) (i + (n - j)) cap) ∧
        w' = (w.drew.setCells g (0 + i * 7) ((cur.toList.drop (j * 7)).take ((n - j) * 7))).setCells g (0 + (i + (n - j)) * 7) zs := by
  have t22 : Try.prog.underlying 23 = some (.slice 31) := by kernel_rfl
  obtain ⟨i0, z, hi, hz0, hz1, hzs, hby, hsz⟩ := infoOk_spec (P := Try.prog) (e := 31) (k := 7) (by kernel_rfl)
  have z23 : ∀ w, (Go.sizeOf 31).run Try.prog w = .ok 7 w := fun w => by simp [sizeOf, typeInfo, hi, hz1]
  have hv : ∀ w, (zeroValue 31).run Try.prog w = .ok z w := fun w => by simp [zeroValue, typeInfo, hi, hz0]
  have hzo : ∀ u ∈ z.cells.toList, u.oneCell' = true := by
    have h : (match Try.prog.info? 31 with | some i => (match i.zero with | some z => z.cells.toList.all (·.oneCell') | none => false) | none => false) = true := by kernel_rfl
    rw [hi] at h
    simp only [hz0] at h
    exact fun u hu => List.all_eq_true.1 h u hu
  obtain ⟨news, hnews⟩ : ∃ news, news = (cur.toList.drop (j * 7)).take ((n - j) * 7) := ⟨_, rfl⟩
  rw [← hnews]
  rw [← hnews] at h1
  have hnk : n * 7 ≤ cap * 7 := Nat.mul_le_mul_right _ hnc
  have hlen : news.length = (n - j) * 7 := by rw [hnews]; simp; omega
  have hget : ∀ t, t < (n - j) * 7 → news[t]? = cur[j * 7 + t]? := by
    intro t ht
    rw [hnews, List.getElem?_take, if_pos ht, List.getElem?_drop, Array.getElem?_toList]
  have hcell : ∀ t, t < cur.size → w.cell? ⟨g, t, none⟩ = cur[t]? := fun t ht => by rw [cell_at hg]
  have hfro : ∀ t, w.frozen? ⟨g, t, none⟩ = false := fun t => by simp [World.frozen?, hg]
  obtain ⟨A, hA, hsrc⟩ : ∃ A : Addr, (if cap = j then some (⟨g, 0, none⟩ : Addr) else some ⟨g, 0 + j * 7, none⟩) = some A ∧ Hid (∀ t u, news[t]? = some u → w.drew.cell? (A.add t) = some u) := by
    by_cases h : cap = j
    · refine ⟨⟨g, 0, none⟩, by simp [h], fun t u hu => ?_⟩
      have h0 : news.length = 0 := by rw [hlen]; omega
      rw [List.length_eq_zero_iff.1 h0] at hu
      simp at hu
    · refine ⟨⟨g, 0 + j * 7, none⟩, by simp [h], fun t u hu => ?_⟩
      have ht : t < (n - j) * 7 := by
        have := (List.getElem?_eq_some_iff.1 hu).1
        rwa [hlen] at this
      rw [hget t ht] at hu
      rw [Addr.add_lit]
      show w.cell? _ = some u
      rw [hcell _ (by have := (Array.getElem?_eq_some_iff.1 hu).1; omega), ← hu]
      congr 1
      omega
  have s1 : Hid (news.length = (n - j) * 7) := hlen
  have s2 : Hid (∀ u ∈ news, u.oneCell' = true) := h1
  have s3 : Hid (∀ t, t < news.length → (w.drew.cell? ⟨g, 0 + i * 7 + t, none⟩).isSome = true ∧ w.drew.frozen? ⟨g, 0 + i * 7 + t, none⟩ = false) := by
    intro t ht
    rw [hlen] at ht
    have hlt' : 0 + i * 7 + t < cur.size := by omega
    refine ⟨?_, hfro _⟩
    show (w.cell? _).isSome = true
    rw [hcell _ hlt', Array.getElem?_eq_getElem hlt']
    rfl
  obtain ⟨W1, hW1⟩ : ∃ W1, W1 = w.drew.setCells g (0 + i * 7) news := ⟨_, rfl⟩
  have hgd : w.drew.heap[g]? = some (.cells cur 31 (0, 0)) := hg
  obtain ⟨c1, p1, p2, p3⟩ := setCells_heap news (0 + i * 7) w.drew g cur 31 (0, 0) hgd (by rw [hlen]; omega)
  rw [← hW1] at p1
  have hcl : ∀ ty, (Builtin.clear_ #[23] ty #[.slice (some ⟨g, 0 + (i + (n - j)) * 7, none⟩) (n - (i + (n - j))) (cap - (i + (n - j)))]).run Try.prog W1 = .ok (.tuple #[]) (W1.setCells g (0 + (i + (n - j)) * 7) (Builtin.zeroCells z.cells (n - (i + (n - j)))).toList) :=
    fun ty => run_clear W1 _ 31 ty z t22 (hv W1) hzo (by omega) g (0 + (i + (n - j)) * 7) _ _ (by omega)
      (fun t ht => by
        rw [hzs] at ht
        have hlt' : 0 + (i + (n - j)) * 7 + t < c1.size := by rw [p2]; omega
        rw [cell_at p1, Array.getElem?_eq_getElem hlt']; rfl)
      (fun t ht => by simp [World.frozen?, p1])
  have X : Aside ((Builtin.zeroCells z.cells (n - (i + (n - j)))).toList.length = (j - i) * 7) := by
    show (Builtin.zeroCells z.cells (n - (i + (n - j)))).toList.length = (j - i) * 7
    simp [Builtin.zeroCells, hzs]
    omega
  have hW : Hid (W1 = w.drew.setCells g (0 + i * 7) news) := hW1
  have hic : i ≤ cap := by omega
  have hjc : j ≤ cap := by omega
  have mixed := mixed
  obtain ⟨zl, hzl⟩ : ∃ zl, zl = (Builtin.zeroCells z.cells (n - (i + (n - j)))).toList := ⟨_, rfl⟩
  have X2 : Aside (zl.length = (j - i) * 7) := by rw [hzl]; exact X
  rw [← hzl] at hcl
  simp only [Nat.zero_add] at hcl
  clear X hzl hzo hzs hv hz0
  clear hW1 hg hget hnews hlen hcell hfro p1 p3 hgd
  go_enter Try.func27, Try.ntmps27
  go_wp2_with fail
  go_region_law_o (refine step_append_room rfl (.tmp 22) (.tmp 25) 23 rfl 31 i0 7 t22 hi hz1 g 0 i cap (by simp [Act.eval, Act.put]) A (n - j) (cap - j) news (by simp [Act.eval, Act.put]; simpa using hA) s1.out hsrc.out s2.out (by omega) s3.out ?_; rw [← hW.out])
  go_wp2
  all_goals (go_ret; exact ⟨zl, by have := X2.out; omega, rfl, by have hw := hW.out; simp only [Nat.zero_add] at hw; rw [hw]⟩)
theorem m27 : MeetsRow Try.prog 27 S27 (31, ctsRow S27, [(false, [.int .i64]), (false, [.int .i64])]) delPre delD := delete_meets (S := S27) (cts := ctsRow S27) rfl (by decide) (enter_of Try.func27 b27 n27) delWalk27
set_option maxHeartbeats 4000000 in
set_option maxRecDepth 1000000 in
theorem delWalk36 (w : World) (g n cap i j : Nat) (cur : Array Value) (hg : w.heap[g]? = some (.cells cur 3 (0, 0))) (hnc : n ≤ cap) (_hcm : cap ≤ maxLen) (hcs : cur.size = cap * 1) (hlt : i < j) (hj : j ≤ n)
    (h1 : ∀ u ∈ (cur.toList.drop (j * 1)).take ((n - j) * 1), u.oneCell' = true) :
      Calls Try.prog 36 #[.slice (some ⟨g, 0, none⟩) n cap, .int .i64 i, .int .i64 j] w fun e' w' => ∃ zs : List Value, zs.length = (j - i) * 1 ∧ e' = .returned (.slice (some ⟨g, 0, none⟩) (i + (n - j)) cap) ∧
        w' = (w.drew.setCells g (0 + i * 1) ((cur.toList.drop (j * 1)).take ((n - j) * 1))).setCells g (0 + (i + (n - j)) * 1) zs := by
  have t22 : Try.prog.underlying 47 = some (.slice 3) := by kernel_rfl
  obtain ⟨i0, z, hi, hz0, hz1, hzs, hby, hsz⟩ := infoOk_spec (P := Try.prog) (e := 3) (k := 1) (by kernel_rfl)
  have z23 : ∀ w, (Go.sizeOf 3).run Try.prog w = .ok 1 w := fun w => by simp [sizeOf, typeInfo, hi, hz1]
  have hv : ∀ w, (zeroValue 3).run Try.prog w = .ok z w := fun w => by simp [zeroValue, typeInfo, hi, hz0]
  have hzo : ∀ u ∈ z.cells.toList, u.oneCell' = true := by
    have h : (match Try.prog.info? 3 with | some i => (match i.zero with | some z => z.cells.toList.all (·.oneCell') | none => false) | none => false) = true := by kernel_rfl
    rw [hi] at h
    simp only [hz0] at h
    exact fun u hu => List.all_eq_true.1 h u hu
  obtain ⟨news, hnews⟩ : ∃ news, news = (cur.toList.drop (j * 1)).take ((n - j) * 1) := ⟨_, rfl⟩
  rw [← hnews]
  rw [← hnews] at h1
  have hnk : n * 1 ≤ cap * 1 := Nat.mul_le_mul_right _ hnc
  have hlen : news.length = (n - j) * 1 := by rw [hnews]; simp; omega
  have hget : ∀ t, t < (n - j) * 1 → news[t]? = cur[j * 1 + t]? := by
    intro t ht
    rw [hnews, List.getElem?_take, if_pos ht, List.getElem?_drop, Array.getElem?_toList]
  have hcell : ∀ t, t < cur.size → w.cell? ⟨g, t, none⟩ = cur[t]? := fun t ht => by rw [cell_at hg]
  have hfro : ∀ t, w.frozen? ⟨g, t, none⟩ = false := fun t => by simp [World.frozen?, hg]
  obtain ⟨A, hA, hsrc⟩ : ∃ A : Addr, (if cap = j then some (⟨g, 0, none⟩ : Addr) else some ⟨g, 0 + j * 1, none⟩) = some A ∧ Hid (∀ t u, news[t]? = some u → w.drew.cell? (A.add t) = some u) := by
    by_cases h : cap = j
    · refine ⟨⟨g, 0, none⟩, by simp [h], fun t u hu => ?_⟩
      have h0 : news.length = 0 := by rw [hlen]; omega
      rw [List.length_eq_zero_iff.1 h0] at hu
      simp at hu
    · refine ⟨⟨g, 0 + j * 1, none⟩, by simp [h], fun t u hu => ?_⟩
      have ht : t < (n - j) * 1 := by
        have := (List.getElem?_eq_some_iff.1 hu).1
        rwa [hlen] at this
      rw [hget t ht] at hu
      rw [Addr.add_lit]
      show w.cell? _ = some u
      rw [hcell _ (by have := (Array.getElem?_eq_some_iff.1 hu).1; omega), ← hu]
      congr 1
      omega
  have s1 : Hid (news.length = (n - j) * 1) := hlen
  have s2 : Hid (∀ u ∈ news, u.oneCell' = true) := h1
  have s3 : Hid (∀ t, t < news.length → (w.drew.cell? ⟨g, 0 + i * 1 + t, none⟩).isSome = true ∧ w.drew.frozen? ⟨g, 0 + i * 1 + t, none⟩ = false) := by
    intro t ht
    rw [hlen] at ht
    have hlt' : 0 + i * 1 + t < cur.size := by omega
    refine ⟨?_, hfro _⟩
    show (w.cell? _).isSome = true
    rw [hcell _ hlt', Array.getElem?_eq_getElem hlt']
    rfl
  obtain ⟨W1, hW1⟩ : ∃ W1, W1 = w.drew.setCells g (0 + i * 1) news := ⟨_, rfl⟩
  have hgd : w.drew.heap[g]? = some (.cells cur 3 (0, 0)) := hg
  obtain ⟨c1, p1, p2, p3⟩ := setCells_heap news (0 + i * 1) w.drew g cur 3 (0, 0) hgd (by rw [hlen]; omega)
  rw [← hW1] at p1
  have hcl : ∀ ty, (Builtin.clear_ #[47] ty #[.slice (some ⟨g, 0 + (i + (n - j)) * 1, none⟩) (n - (i + (n - j))) (cap - (i + (n - j)))]).run Try.prog W1 = .ok (.tuple #[]) (W1.setCells g (0 + (i + (n - j)) * 1) (Builtin.zeroCells z.cells (n - (i + (n - j)))).toList) :=
    fun ty => run_clear W1 _ 3 ty z t22 (hv W1) hzo (by omega) g (0 + (i + (n - j)) * 1) _ _ (by omega)
      (fun t ht => by
        rw [hzs] at ht
        have hlt' : 0 + (i + (n - j)) * 1 + t < c1.size := by rw [p2]; omega
        rw [cell_at p1, Array.getElem?_eq_getElem hlt']; rfl)
      (fun t ht => by simp [World.frozen?, p1])
  have X : Aside ((Builtin.zeroCells z.cells (n - (i + (n - j)))).toList.length = (j - i) * 1) := by
    show (Builtin.zeroCells z.cells (n - (i + (n - j)))).toList.length = (j - i) * 1
    simp [Builtin.zeroCells, hzs]
    omega
  have hW : Hid (W1 = w.drew.setCells g (0 + i * 1) news) := hW1
  have hic : i ≤ cap := by omega
  have hjc : j ≤ cap := by omega
  have mixed := mixed
  obtain ⟨zl, hzl⟩ : ∃ zl, zl = (Builtin.zeroCells z.cells (n - (i + (n - j)))).toList := ⟨_, rfl⟩
  have X2 : Aside (zl.length = (j - i) * 1) := by rw [hzl]; exact X
  rw [← hzl] at hcl
  simp only [Nat.zero_add, Nat.mul_one] at hcl
  clear X hzl hzo hzs hv hz0
  clear hW1 hg hget hnews hlen hcell hfro p1 p3 hgd
  go_enter Try.func36, Try.ntmps36
  go_wp2_with fail
  go_region_law_o (refine step_append_room rfl (.tmp 22) (.tmp 25) 47 rfl 3 i0 1 t22 hi hz1 g 0 i cap (by simp [Act.eval, Act.put]) A (n - j) (cap - j) news (by simp [Act.eval, Act.put]; simpa using hA) s1.out hsrc.out s2.out (by omega) s3.out ?_; rw [← hW.out])
  go_wp2
  all_goals (go_ret; exact ⟨zl, by have := X2.out; omega, rfl, by have hw := hW.out; simp only [Nat.zero_add, Nat.mul_one] at hw; rw [hw]⟩)
theorem m36 : MeetsRow Try.prog 36 S36 (3, ctsRow S36, [(false, [.int .i64]), (false, [.int .i64])]) delPre delD := delete_meets (S := S36) (cts := ctsRow S36) rfl (by decide) (enter_of Try.func36 b36 n36) delWalk36
end Go.Proofs.Ythnilbkkihmpoaa.rv
