/-
  Changes of graphs: edits are undone by their inverses.
-/
import Derived.Test.YthnilbkkihmpoaaRvCh10
namespace Go.Proofs.Ythnilbkkihmpoaa.rv
open Go.RV
set_option maxRecDepth 10000

theorem valid_iff (g : Gd) : validE g = 0 ↔ ¬ (64 < (g.N.length : Int) ∨ 256 < (g.E.length : Int) ∨ 16 < (g.C.length : Int)) ∧ isName g.nm = true ∧ fe (nodeE g.N g.C) g.N.length = 0 ∧ fe (cluE g.N g.C) g.C.length = 0 ∧ fe (fun j => edgeE g.N (el g.E j)) g.E.length = 0 := by
  unfold validE
  constructor
  · intro h
    split at h
    · omega
    · rename_i h1
      split at h
      · rename_i h2
        split at h
        · rename_i h3
          split at h
          · rename_i h4; exact ⟨h1, h2, h3, h4, h⟩
          · rename_i h4; exact absurd h h4
        · rename_i h3; exact absurd h h3
      · omega
  · rintro ⟨h1, h2, h3, h4, h5⟩
    rw [if_neg h1, if_pos h2, if_pos h3, if_pos h4, h5]
theorem valid_take {g : Gd} (hv : validE g = 0) (m : Nat) : validE { g with E := g.E.take m } = 0 := by
  rw [valid_iff] at hv ⊢
  obtain ⟨h1, h2, h3, h4, h5⟩ := hv
  have hl : (g.E.take m).length ≤ g.E.length := by simp; omega
  refine ⟨fun h => h1 ?_, h2, h3, h4, fe_ok.2 fun k hk => ?_⟩
  · rcases h with h | h | h
    · exact .inl h
    · exact .inr (.inl (by simp only at h; omega))
    · exact .inr (.inr h)
  · simp only at hk
    have hk' : k < m ∧ k < g.E.length := by simp at hk; omega
    simp only
    rw [el_take hk'.1]
    exact fe_ok.1 h5 k hk'.2
theorem valid_edge {g : Gd} (hv : validE g = 0) {j : Nat} (hj : j < g.E.length) : 0 ≤ cI (el g.E j) 0 ∧ cI (el g.E j) 0 < g.N.length ∧ 0 ≤ cI (el g.E j) 1 ∧ cI (el g.E j) 1 < g.N.length := by
  obtain ⟨_, _, _, _, h5⟩ := (valid_iff g).1 hv
  have := fe_ok.1 h5 j hj
  unfold edgeE at this
  split at this
  · rename_i h; exact ⟨h.1, h.2.1, h.2.2.1, h.2.2.2.1⟩
  · omega
theorem apply_do {h : Gd} {e : List D} (hv : validE h = 0) (hf : fitsB e = true) (hi : insB h e = true) {g : Gd} (hd : doneG h e = g) (hg : validE g = 0) : applyG h e = (g, 0) := by
  subst hd
  rw [apply_in hv hf hi, if_pos hg]
theorem runS_cons {h h' : Gd} {e : List D} {es : List (List D)} {i : Nat} (ha : applyG h e = (h', 0)) : runS h (e :: es) i = runS h' es (i + 1) := by
  rw [runS, ha]
  rfl
theorem run_one {h g : Gd} {e : List D} (hv : validE h = 0) (ha : applyG h e = (g, 0)) : runG h [e] = (g, 1, 0) := by
  unfold runG
  rw [if_pos hv, runS_cons ha]
  rfl
theorem edgeW_keep {a : Int} {y : List D} (hr : edgeRow y) (h0 : cI y 0 ≤ a) (h1 : cI y 1 ≤ a) (ht : tch a y = false) : edgeW a y = [y] := by
  have e0 : decD a (gc y 0) = gc y 0 := by unfold decD; rw [if_neg (by show ¬ a < cI y 0; omega)]
  have e1 : decD a (gc y 1) = gc y 1 := by unfold decD; rw [if_neg (by show ¬ a < cI y 1; omega)]
  rw [edgeW, if_neg (by rw [ht]; decide), e0, e1, row7 hr]
theorem flat_one {f : List D → List (List D)} : ∀ {l : List (List D)}, (∀ y ∈ l, f y = [y]) → l.flatMap f = l
  | [], _ => rfl
  | y :: l, h => by rw [List.flatMap_cons, h y (by simp), flat_one fun z hz => h z (by simp [hz])]; rfl
theorem flat_nil {f : List D → List (List D)} : ∀ {l : List (List D)}, (∀ y ∈ l, f y = []) → l.flatMap f = []
  | [], _ => rfl
  | y :: l, h => by rw [List.flatMap_cons, h y (by simp), flat_nil fun z hz => h z (by simp [hz])]; rfl
theorem flat_map {f : List D → List (List D)} {k : List D → List D} : ∀ {l : List (List D)}, (∀ y ∈ l, f y = [k y]) → l.flatMap f = l.map k
  | [], _ => rfl
  | y :: l, h => by rw [List.flatMap_cons, h y (by simp), flat_map fun z hz => h z (by simp [hz])]; rfl
theorem mem_el {l : List (List D)} {y : List D} (h : y ∈ l) : ∃ j, j < l.length ∧ y = el l j := by
  obtain ⟨j, hj, rfl⟩ := List.getElem_of_mem h
  exact ⟨j, hj, by simp [el, List.getD, hj]⟩
theorem rmI_snoc (l : List (List D)) (z : List D) : rmI (l ++ [z]) l.length = l := by
  unfold rmI
  rw [List.take_append_of_le_length (Nat.le_refl _), List.take_length, List.drop_of_length_le (by simp)]
  simp
theorem set_same {l : List (List D)} {n : Nat} (h : n < l.length) : l.set n (el l n) = l := by
  have e : el l n = l[n] := by simp [el, List.getD, h]
  rw [e, List.set_getElem_self]
theorem rmI_last {l : List (List D)} {n : Nat} (h : n + 1 = l.length) : rmI l n = l.take n := by
  unfold rmI
  rw [List.drop_of_length_le (by omega), List.append_nil]
theorem take_last {l : List (List D)} {n : Nat} (h : n + 1 = l.length) : l.take n ++ [el l n] = l := by
  rw [← take_succ' (by omega), h, List.take_length]
/-- edges come back one by one -/
theorem add_edges {g : Gd} (hv : validE g = 0) (hE : ∀ y ∈ g.E, edgeRow y) : ∀ (n m i : Nat), m + n = g.E.length → runS { g with E := g.E.take m } ((g.E.drop m).map (edit (.i 3) (.i 0) zN)) i = (g, i + n, 0)
  | 0, m, i, h => by
    rw [List.drop_of_length_le (by omega), List.take_of_length_le (by omega)]
    rfl
  | n + 1, m, i, h => by
    have hm : m < g.E.length := by omega
    have hrow := hE _ (el_mem hm)
    rw [drop_el hm, List.map_cons]
    have ha : applyG { g with E := g.E.take m } (edit (.i 3) (.i 0) zN (el g.E m)) = ({ g with E := g.E.take (m + 1) }, 0) := by
      refine apply_do (valid_take hv m) rfl rfl ?_ (valid_take hv (m + 1))
      show ({ g with E := g.E.take m ++ [[gc (el g.E m) 0, gc (el g.E m) 1, gc (el g.E m) 2, gc (el g.E m) 3, gc (el g.E m) 4, gc (el g.E m) 5, gc (el g.E m) 6]] } : Gd) = _
      rw [row7 hrow, take_succ' hm]
    rw [runS_cons ha, add_edges hv hE n (m + 1) (i + 1) (by omega)]
    congr 2
    omega
theorem inv_run {g : Gd} {x : List D} (hN : ∀ y ∈ g.N, nodeRow y) (hE : ∀ y ∈ g.E, edgeRow y) (hx : gc x 1 = .i (cI x 1)) (hz : (applyG g x).2 = 0) (hi : (invG g x).2 = 0) : runG (applyG g x).1 (invG g x).1 = (g, ((invG g x).1.length : Int), 0) := by
  obtain ⟨hv, hfit, hin, hvh, he⟩ := apply_ok hz
  have e1 : (applyG g x).1 = doneG g x := by rw [he]
  rw [e1]
  generalize hr : invG g x = r at hi ⊢
  unfold invG at hr
  rw [if_pos hz] at hr
  rcases fits_kind hfit with hk | hk | hk | hk | hk | hk
  · rw [hk] at hr
    simp only [beq_self_eq_true, if_true] at hr
    subst hr
    have hd := done_kind hk g
    simp only [beq_self_eq_true, if_true] at hd
    rw [hd] at hvh ⊢
    refine run_one hvh (apply_do hvh rfl ?_ ?_ hv)
    · show (decide ((0 : Int) ≤ (g.N.length : Int)) && decide ((g.N.length : Int) < ((g.N ++ [ndOf x]).length : Int))) = true
      simp
      omega
    · show ({ g with N := rmI (g.N ++ [ndOf x]) g.N.length, E := wiE g.E (g.N.length : Int) } : Gd) = g
      have hw : wiE g.E (g.N.length : Int) = g.E := flat_one fun y hy => by
        obtain ⟨j, hj, rfl⟩ := mem_el hy
        obtain ⟨v0, v1, v2, v3⟩ := valid_edge hv hj
        refine edgeW_keep (hE _ hy) (by omega) (by omega) ?_
        unfold tch
        rw [beq_f (by omega), beq_f (by omega)]; rfl
      rw [rmI_snoc, hw]
  · -- a node comes back, with its edges
    rw [hk] at hr
    simp only [show ((2 : Int) == 1) = false from rfl, show ((2 : Int) == 3) = false from rfl, show ((2 : Int) == 4) = false from rfl, show ((2 : Int) == 5) = false from rfl, show ((2 : Int) == 6) = false from rfl, Bool.false_eq_true, if_false] at hr
    have hd := done_kind hk g
    simp only [show ((2 : Int) == 1) = false from rfl, show ((2 : Int) == 3) = false from rfl, show ((2 : Int) == 4) = false from rfl, beq_self_eq_true, if_true, Bool.false_eq_true, if_false] at hd
    have hins := ins_kind hk g
    rw [hin] at hins
    have hins := hins.symm
    simp only [show ((2 : Int) == 1) = false from rfl, show ((2 : Int) == 3) = false from rfl, show ((2 : Int) == 4) = false from rfl, Bool.false_eq_true, if_false, Bool.and_eq_true, decide_eq_true_eq] at hins
    generalize ha : cI x 1 = a at *
    obtain ⟨n, rfl⟩ := Int.eq_ofNat_of_zero_le hins.1
    rw [Int.toNat_natCast] at hr hd
    by_cases hc : (n : Int) = (g.N.length : Int) - 1 ∧ anyN (badE g.E (n : Int)) g.E.length = false
    · rw [if_pos hc] at hr
      subst hr
      obtain ⟨hl, hb⟩ := hc
      have hn1 : n + 1 = g.N.length := by omega
      have hrow := hN _ (el_mem (show n < g.N.length by omega))
      -- the edges that touch the node stand last
      let k := fs (fun j => tch (n : Int) (el g.E j)) g.E.length
      have hkle : k ≤ g.E.length := fs_le _ _
      have hlow : ∀ j, j < k → tch (n : Int) (el g.E j) = false := fun j hj => fs_min (p := fun j => tch (n : Int) (el g.E j)) hj
      have hhigh : ∀ j, k ≤ j → j < g.E.length → tch (n : Int) (el g.E j) = true := fun j hj1 hj2 => by
        by_cases e : j = k
        · subst e
          exact fs_at (p := fun j => tch (n : Int) (el g.E j)) hj2
        · have hbj := anyN_false.1 hb j hj2
          have hany : anyN (fun i => tch (n : Int) (el g.E i)) j = true := anyN_iff.2 ⟨k, by omega, fs_at (p := fun j => tch (n : Int) (el g.E j)) (by show k < g.E.length; omega)⟩
          unfold badE at hbj
          rw [hany, Bool.and_true] at hbj
          simpa using hbj
      have hsplit : g.E = g.E.take k ++ g.E.drop k := (List.take_append_drop k g.E).symm
      have hA : wiE g.E (n : Int) = g.E.take k := by
        have h1 : (g.E.take k).flatMap (edgeW (n : Int)) = g.E.take k := flat_one fun y hy => by
          obtain ⟨j, hj, rfl⟩ := mem_el hy
          have hj' : j < k := by simp at hj; omega
          rw [el_take hj']
          obtain ⟨v0, v1, v2, v3⟩ := valid_edge hv (show j < g.E.length by omega)
          exact edgeW_keep (hE _ (el_mem (by omega))) (by omega) (by omega) (hlow j hj')
        have h2 : (g.E.drop k).flatMap (edgeW (n : Int)) = [] := flat_nil fun y hy => by
          obtain ⟨j, hj, rfl⟩ := mem_el hy
          simp only [List.length_drop] at hj
          have e : el (g.E.drop k) j = el g.E (k + j) := by simp only [el, List.getD]; rw [List.getElem?_drop]
          rw [e, edgeW, if_pos (hhigh (k + j) (by omega) (by omega))]
        show g.E.flatMap _ = _
        rw [hsplit, List.flatMap_append, h1, h2, List.append_nil, ← hsplit]
      have hB : g.E.flatMap (bk (n : Int)) = (g.E.drop k).map (edit (.i 3) (.i 0) zN) := by
        have h1 : (g.E.take k).flatMap (bk (n : Int)) = [] := flat_nil fun y hy => by
          obtain ⟨j, hj, rfl⟩ := mem_el hy
          have hj' : j < k := by simp at hj; omega
          rw [el_take hj', bk, if_neg (by rw [hlow j hj']; decide)]
        have h2 : (g.E.drop k).flatMap (bk (n : Int)) = (g.E.drop k).map (edit (.i 3) (.i 0) zN) := flat_map fun y hy => by
          obtain ⟨j, hj, rfl⟩ := mem_el hy
          simp only [List.length_drop] at hj
          have e : el (g.E.drop k) j = el g.E (k + j) := by simp only [el, List.getD]; rw [List.getElem?_drop]
          rw [e, bk, if_pos (hhigh (k + j) (by omega) (by omega))]
        rw [hsplit, List.flatMap_append, h1, h2, List.nil_append, ← hsplit]
      rw [hd, hA, rmI_last hn1] at hvh ⊢
      have ha1 : applyG { g with N := g.N.take n, E := g.E.take k } (edit (.i 1) (.i 0) (el g.N n) zE) = ({ g with E := g.E.take k }, 0) := by
        refine apply_do hvh rfl rfl ?_ (valid_take hv k)
        show ({ g with N := g.N.take n ++ [[gc (el g.N n) 0, gc (el g.N n) 1, gc (el g.N n) 2, gc (el g.N n) 3, gc (el g.N n) 4, gc (el g.N n) 5]], E := g.E.take k } : Gd) = _
        rw [row6 hrow, take_last hn1]
      have hrun : runS { g with N := g.N.take n, E := g.E.take k } (edit (.i 1) (.i 0) (el g.N n) zE :: g.E.flatMap (bk (n : Int))) 0 = (g, 1 + (g.E.length - k), 0) := by
        rw [runS_cons ha1, hB, add_edges hv hE (g.E.length - k) k 1 (by omega)]
      unfold runG
      rw [if_pos hvh, hrun]
      rfl
    · rw [if_neg hc] at hr
      subst hr
      simp at hi
  · rw [hk] at hr
    simp only [show ((3 : Int) == 1) = false from rfl, beq_self_eq_true, if_true, Bool.false_eq_true, if_false] at hr
    subst hr
    have hd := done_kind hk g
    simp only [show ((3 : Int) == 1) = false from rfl, beq_self_eq_true, if_true, Bool.false_eq_true, if_false] at hd
    rw [hd] at hvh ⊢
    refine run_one hvh (apply_do hvh rfl ?_ ?_ hv)
    · show (decide ((0 : Int) ≤ (g.E.length : Int)) && decide ((g.E.length : Int) < ((g.E ++ [egOf x]).length : Int))) = true
      simp
      omega
    · show ({ g with E := rmI (g.E ++ [egOf x]) g.E.length } : Gd) = g
      rw [rmI_snoc]
  · rw [hk] at hr
    simp only [show ((4 : Int) == 1) = false from rfl, show ((4 : Int) == 3) = false from rfl, show ((4 : Int) == 5) = false from rfl, show ((4 : Int) == 6) = false from rfl, beq_self_eq_true, if_true, Bool.false_eq_true, if_false] at hr
    have hd := done_kind hk g
    simp only [show ((4 : Int) == 1) = false from rfl, show ((4 : Int) == 3) = false from rfl, beq_self_eq_true, if_true, Bool.false_eq_true, if_false] at hd
    have hins := ins_kind hk g
    rw [hin] at hins
    have hins := hins.symm
    simp only [show ((4 : Int) == 1) = false from rfl, show ((4 : Int) == 3) = false from rfl, beq_self_eq_true, if_true, Bool.false_eq_true, if_false, Bool.and_eq_true, decide_eq_true_eq] at hins
    generalize ha : cI x 1 = a at *
    obtain ⟨n, rfl⟩ := Int.eq_ofNat_of_zero_le hins.1
    rw [Int.toNat_natCast] at hr hd
    by_cases hc : (n : Int) = (g.E.length : Int) - 1
    · rw [if_pos hc] at hr
      subst hr
      have hn1 : n + 1 = g.E.length := by omega
      have hrow := hE _ (el_mem (show n < g.E.length by omega))
      rw [hd, rmI_last hn1] at hvh ⊢
      refine run_one hvh (apply_do hvh rfl rfl ?_ hv)
      show ({ g with E := g.E.take n ++ [[gc (el g.E n) 0, gc (el g.E n) 1, gc (el g.E n) 2, gc (el g.E n) 3, gc (el g.E n) 4, gc (el g.E n) 5, gc (el g.E n) 6]] } : Gd) = g
      rw [row7 hrow, take_last hn1]
    · rw [if_neg hc] at hr
      subst hr
      simp at hi
  · rw [hk] at hr
    simp only [show ((5 : Int) == 1) = false from rfl, show ((5 : Int) == 3) = false from rfl, beq_self_eq_true, if_true, Bool.false_eq_true, if_false] at hr
    subst hr
    have hd := done_kind hk g
    simp only [show ((5 : Int) == 1) = false from rfl, show ((5 : Int) == 2) = false from rfl, show ((5 : Int) == 3) = false from rfl, show ((5 : Int) == 4) = false from rfl, beq_self_eq_true, if_true, Bool.false_eq_true, if_false] at hd
    have hins := ins_kind hk g
    rw [hin] at hins
    have hins := hins.symm
    simp only [show ((5 : Int) == 1) = false from rfl, show ((5 : Int) == 3) = false from rfl, show ((5 : Int) == 4) = false from rfl, Bool.false_eq_true, if_false, Bool.and_eq_true, decide_eq_true_eq] at hins
    rw [hx]
    generalize ha : cI x 1 = a at *
    obtain ⟨n, rfl⟩ := Int.eq_ofNat_of_zero_le hins.1
    rw [Int.toNat_natCast] at hd ⊢
    have hlt : n < g.N.length := by omega
    have hrow := hN _ (el_mem hlt)
    rw [hd] at hvh ⊢
    refine run_one hvh (apply_do hvh rfl ?_ ?_ hv)
    · show (decide ((0 : Int) ≤ (n : Int)) && decide ((n : Int) < ((g.N.set n (szRow (el g.N n) x)).length : Int))) = true
      rw [List.length_set]
      simp
      omega
    · show ({ g with N := (g.N.set n (szRow (el g.N n) x)).set n [gc (el (g.N.set n (szRow (el g.N n) x)) n) 0, gc (el (g.N.set n (szRow (el g.N n) x)) n) 1, gc (el g.N n) 2, gc (el g.N n) 3, gc (el (g.N.set n (szRow (el g.N n) x)) n) 4, gc (el (g.N.set n (szRow (el g.N n) x)) n) 5] } : Gd) = g
      rw [set_el _ _ _ hlt, List.set_set]
      have e : [gc (szRow (el g.N n) x) 0, gc (szRow (el g.N n) x) 1, gc (el g.N n) 2, gc (el g.N n) 3, gc (szRow (el g.N n) x) 4, gc (szRow (el g.N n) x) 5] = el g.N n := row6 hrow
      rw [e, set_same hlt]
  · rw [hk] at hr
    simp only [show ((6 : Int) == 1) = false from rfl, show ((6 : Int) == 3) = false from rfl, show ((6 : Int) == 5) = false from rfl, beq_self_eq_true, if_true, Bool.false_eq_true, if_false] at hr
    subst hr
    have hd := done_kind hk g
    simp only [show ((6 : Int) == 1) = false from rfl, show ((6 : Int) == 2) = false from rfl, show ((6 : Int) == 3) = false from rfl, show ((6 : Int) == 4) = false from rfl, show ((6 : Int) == 5) = false from rfl, beq_self_eq_true, if_true, Bool.false_eq_true, if_false] at hd
    have hins := ins_kind hk g
    rw [hin] at hins
    have hins := hins.symm
    simp only [show ((6 : Int) == 1) = false from rfl, show ((6 : Int) == 3) = false from rfl, show ((6 : Int) == 4) = false from rfl, Bool.false_eq_true, if_false, Bool.and_eq_true, decide_eq_true_eq] at hins
    rw [hx]
    generalize ha : cI x 1 = a at *
    obtain ⟨n, rfl⟩ := Int.eq_ofNat_of_zero_le hins.1
    rw [Int.toNat_natCast] at hd ⊢
    have hlt : n < g.N.length := by omega
    have hrow := hN _ (el_mem hlt)
    rw [hd] at hvh ⊢
    refine run_one hvh (apply_do hvh rfl ?_ ?_ hv)
    · show (decide ((0 : Int) ≤ (n : Int)) && decide ((n : Int) < ((g.N.set n (lbRow (el g.N n) x)).length : Int))) = true
      rw [List.length_set]
      simp
      omega
    · show ({ g with N := (g.N.set n (lbRow (el g.N n) x)).set n [gc (el (g.N.set n (lbRow (el g.N n) x)) n) 0, gc (el g.N n) 1, gc (el (g.N.set n (lbRow (el g.N n) x)) n) 2, gc (el (g.N.set n (lbRow (el g.N n) x)) n) 3, gc (el (g.N.set n (lbRow (el g.N n) x)) n) 4, gc (el (g.N.set n (lbRow (el g.N n) x)) n) 5] } : Gd) = g
      rw [set_el _ _ _ hlt, List.set_set]
      have e : [gc (lbRow (el g.N n) x) 0, gc (el g.N n) 1, gc (lbRow (el g.N n) x) 2, gc (lbRow (el g.N n) x) 3, gc (lbRow (el g.N n) x) 4, gc (lbRow (el g.N n) x) 5] = el g.N n := row6 hrow
      rw [e, set_same hlt]
theorem inv_fail {g : Gd} {x : List D} (hz : (applyG g x).2 = 0) (hi : (invG g x).2 ≠ 0) : invG g x = ([], 1) ∧ (cI x 0 = 2 ∨ cI x 0 = 4) := by
  obtain ⟨hv, hfit, hin, hvh, he⟩ := apply_ok hz
  generalize hr : invG g x = r at hi ⊢
  unfold invG at hr
  rw [if_pos hz] at hr
  rcases fits_kind hfit with hk | hk | hk | hk | hk | hk
  · rw [hk] at hr
    simp only [beq_self_eq_true, if_true] at hr
    subst hr
    exact absurd rfl hi
  · rw [hk] at hr
    simp only [show ((2 : Int) == 1) = false from rfl, show ((2 : Int) == 3) = false from rfl, show ((2 : Int) == 4) = false from rfl, show ((2 : Int) == 5) = false from rfl, show ((2 : Int) == 6) = false from rfl, Bool.false_eq_true, if_false] at hr
    split at hr
    · subst hr
      exact absurd rfl hi
    · exact ⟨hr.symm, .inl hk⟩
  · rw [hk] at hr
    simp only [show ((3 : Int) == 1) = false from rfl, beq_self_eq_true, if_true, Bool.false_eq_true, if_false] at hr
    subst hr
    exact absurd rfl hi
  · rw [hk] at hr
    simp only [show ((4 : Int) == 1) = false from rfl, show ((4 : Int) == 3) = false from rfl, show ((4 : Int) == 5) = false from rfl, show ((4 : Int) == 6) = false from rfl, beq_self_eq_true, if_true, Bool.false_eq_true, if_false] at hr
    split at hr
    · subst hr
      exact absurd rfl hi
    · exact ⟨hr.symm, .inr hk⟩
  · rw [hk] at hr
    simp only [show ((5 : Int) == 1) = false from rfl, show ((5 : Int) == 3) = false from rfl, beq_self_eq_true, if_true, Bool.false_eq_true, if_false] at hr
    subst hr
    exact absurd rfl hi
  · rw [hk] at hr
    simp only [show ((6 : Int) == 1) = false from rfl, show ((6 : Int) == 3) = false from rfl, show ((6 : Int) == 5) = false from rfl, beq_self_eq_true, if_true, Bool.false_eq_true, if_false] at hr
    subst hr
    exact absurd rfl hi
theorem inv_ports {g : Gd} {x : List D} (hz : (applyG g x).2 = 0) : ∀ y ∈ (invG g x).1, (cL y 7).length ≤ 1000000 := by
  obtain ⟨hv, hfit, hin, _, _⟩ := apply_ok hz
  obtain ⟨g', hg', _, _, _, hp⟩ := clone_pre hv
  have e9 : g' = g := by
    cases g; cases g'
    simp only [Gd.ds, List.cons.injEq, D.s.injEq, D.b.injEq, D.l.injEq] at hg'
    simp [hg']
  subst e9
  have hz0 : ∀ k a e, (cL (edit k a zN e) 7).length ≤ 1000000 := fun k a e => by show (0 : Nat) ≤ 1000000; omega
  have hbk : ∀ a, ∀ y ∈ g'.E.flatMap (bk a), (cL y 7).length ≤ 1000000 := fun a y hy => by
    obtain ⟨z, _, hzy⟩ := List.mem_flatMap.1 hy
    unfold bk at hzy
    split at hzy
    · simp only [List.mem_singleton] at hzy
      subst hzy
      exact hz0 _ _ _
    · cases hzy
  unfold invG
  rw [if_pos hz]
  intro y hy
  repeat' split at hy
  all_goals try (simp only [List.mem_singleton] at hy; subst hy; first | exact hz0 _ _ _ | (show (0 : Nat) ≤ 1000000; omega))
  all_goals try (cases hy; done)
  rename_i h1 h2 h3 h4 h5 hc
  rcases List.mem_cons.1 hy with hy | hy
  · subst hy
    show (cL (el g'.N (cI x 1).toNat) 5).length ≤ 1000000
    rw [ins_kind (show cI x 0 = 2 by
      rcases fits_kind hfit with hk | hk | hk | hk | hk | hk
      · rw [hk] at h1; exact absurd rfl h1
      · exact hk
      · rw [hk] at h2; exact absurd rfl h2
      · rw [hk] at h5; exact absurd rfl h5
      · rw [hk] at h3; exact absurd rfl h3
      · rw [hk] at h4; exact absurd rfl h4)] at hin
    simp only [show ((2 : Int) == 1) = false from rfl, show ((2 : Int) == 3) = false from rfl, show ((2 : Int) == 4) = false from rfl, Bool.false_eq_true, if_false, Bool.and_eq_true, decide_eq_true_eq] at hin
    exact hp _ (el_mem (by omega))
  · exact hbk _ y hy
theorem law5 : Meets Try.prog 5 S5 (fun _ => True) (fun _ => [.b true]) := by
  refine meets_of_vt (pre := R) (Φ := F) mixed (sgAt_all (P := Try.prog) (pre := R) (Φ := F) (l := sg5) (List.forall_mem_cons.2 ⟨Meets.at (pre := R) (Φ := F) m8, List.forall_mem_cons.2 ⟨Meets.at (pre := R) (Φ := F) m9, List.forall_mem_cons.2 ⟨Meets.at (pre := R) (Φ := F) m10, List.forall_mem_cons.2 ⟨Meets.at (pre := R) (Φ := F) m13, List.forall_mem_cons.2 ⟨Meets.at (pre := R) (Φ := F) m16, List.forall_mem_cons.2 ⟨Meets.at (pre := R) (Φ := F) m12, (fun _ h => nomatch h)⟩⟩⟩⟩⟩⟩)) Try.func5 b5 n5 (loops_n 0 k5 fun k hk => by omega) e5 fun ds hf _ => ?_
  obtain ⟨g, ds', rfl, h5, _, ⟨_, hN⟩, ⟨_, hE⟩, _⟩ := fitsG hf.flat
  obtain ⟨Y, ds'', rfl, hY, hat, h6⟩ := fitsX h5
  have e0 := fits0 h6
  subst e0
  rw [List.append_nil] at *
  have hA := applyL g Y
  have hI := invL g Y
  have hfw := fewLx g [Y]
  cases hb : fewB g [Y] with
  | true =>
    rw [hb] at hfw
    have hps := (few_ports hb).2 0 (by simp)
    have hpA : prApply (.s g.nm :: .b g.dr :: .l g.N :: .l g.E :: .l g.C :: Y) := by
      show (cL Y 7).length ≤ 1000000
      have : (cL Y 7).length ≤ 20 := hps
      omega
    by_cases hz : (applyG g Y).2 = 0
    · by_cases hi : (invG g Y).2 = 0
      · have hx : gc Y 1 = .i (cI Y 1) := by
          obtain ⟨k, a, s, t, w, h, c, ps, p, q, r, u, lb, wt, ln, rfl⟩ := hY
          rfl
        have hrun := inv_run (fun y hy => fits_node (hN y hy)) (fun y hy => fits_edge (hE y hy)) hx hz hi
        have hR := runL (applyG g Y).1 (invG g Y).1
        rw [hrun] at hR
        have hpR : prRun [.s (applyG g Y).1.nm, .b (applyG g Y).1.dr, .l (applyG g Y).1.N, .l (applyG g Y).1.E, .l (applyG g Y).1.C, .l (invG g Y).1] := fun i hi => inv_ports hz _ (el_mem hi)
        have hs := sameL g g
        rw [sameG_refl] at hs
        rw [hz] at hA
        rw [hi] at hI
        generalize applyG g Y = rr at hA hR hpR
        generalize invG g Y = ii at hI hR hpR
        obtain ⟨k, a, s, t, w, h, c, ps, p, q, r, u, lb, wt, ln, hx⟩ := hY
        rw [hx] at hA hI hpA hfw ⊢
        simp only [vt5, VT.ok, Nd.holds, X.outs, X.ds, X.d, Op1.ev, Op2.ev, takeD_zero, takeD_cons, List.cons_append, List.nil_append, List.getD_cons_zero, List.getD_cons_succ, D.int_i, D.bool_b, D.lst_l, ite_b, ite_or, ite_and, if_true, Bool.false_eq_true, if_false, implies_true, true_and, and_true, F12, R12, F10, R10, F13, R13, F16, R16, F8, R8, F9, R9, hfw, hA, hI, hR, hs, beq_self_eq_true, Bool.not_true, one]
        exact ⟨fun _ => hpA, fun _ => hpA, fun _ => hpR⟩
      · obtain ⟨hfi, hk⟩ := inv_fail hz hi
        rw [hz] at hA
        rw [hfi] at hI
        generalize applyG g Y = rr at hA
        obtain ⟨k, a, s, t, w, h, c, ps, p, q, r, u, lb, wt, ln, hx⟩ := hY
        have hk' : ((k == 2) || (k == 4)) = true := by
          have : cI Y 0 = k := by rw [hx]; rfl
          rw [this] at hk
          simpa using hk
        rw [hx] at hA hI hpA hfw ⊢
        simp only [vt5, VT.ok, Nd.holds, X.outs, X.ds, X.d, Op1.ev, Op2.ev, takeD_zero, takeD_cons, List.cons_append, List.nil_append, List.getD_cons_zero, List.getD_cons_succ, D.int_i, D.bool_b, D.lst_l, ite_b, ite_or, ite_and, if_true, Bool.false_eq_true, if_false, implies_true, true_and, and_true, F12, R12, F10, R10, F13, R13, F16, R16, F8, R8, F9, R9, hfw, hA, hI, hk', beq_self_eq_true, Bool.not_true, one]
        exact ⟨fun _ => hpA, fun _ => hpA, rfl⟩
    · have hfi := inv_err hz
      rw [hfi] at hI
      generalize applyG g Y = rr at hA hI hz
      obtain ⟨k, a, s, t, w, h, c, ps, p, q, r, u, lb, wt, ln, hx⟩ := hY
      rw [hx] at hA hI hpA hfw ⊢
      simp only [vt5, VT.ok, Nd.holds, X.outs, X.ds, X.d, Op1.ev, Op2.ev, takeD_zero, takeD_cons, List.cons_append, List.nil_append, List.getD_cons_zero, List.getD_cons_succ, D.int_i, D.bool_b, D.lst_l, ite_b, ite_or, ite_and, if_true, implies_true, true_and, and_true, F12, R12, F10, R10, F13, R13, F16, R16, F8, R8, F9, R9, hfw, hA, hI, beq_f hz, beq_self_eq_true, Bool.not_false, one]
      exact ⟨fun _ => hpA, fun _ => hpA, rfl⟩
  | false =>
    rw [hb] at hfw
    obtain ⟨k, a, s, t, w, h, c, ps, p, q, r, u, lb, wt, ln, hx⟩ := hY
    rw [hx] at hfw ⊢
    simp only [vt5, VT.ok, Nd.holds, X.outs, X.ds, X.d, Op1.ev, Op2.ev, takeD_zero, takeD_cons, List.cons_append, List.nil_append, List.getD_cons_zero, List.getD_cons_succ, D.int_i, D.bool_b, D.lst_l, ite_b, ite_or, ite_and, if_true, implies_true, true_and, and_true, F12, R12, F10, R10, F13, R13, F16, R16, F8, R8, F9, R9, hfw, Bool.not_false, one]
end Go.Proofs.Ythnilbkkihmpoaa.rv
