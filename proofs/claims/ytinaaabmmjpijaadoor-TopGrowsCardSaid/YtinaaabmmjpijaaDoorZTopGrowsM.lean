/-
 (*simplex.problem).steps, walked: rows that lie in a row.; (*simplex.problem).steps: its contract.; Ranking problems: closed forms of the loops.; Orders of vertices: closed forms of the program's loops.; Orders of vertices: closed forms of the loops that flip arcs, and of the reference.; Ranks of graphs: closed forms.
-/
import Derived.WalkKit
import Derived.Deep.LoopGhost
import Derived.Deep.OwnRows
import Derived.Deep.Light
import Derived.Deep.RegionHeld3
import Derived.Deep.Cut
import Derived.Deep.CutRange
import Derived.Deep.AppendLies
import Derived.Test.YtinaaabmmjpijaaDoorZTopGrowsL
namespace Go.Proofs.YtinaaabmmjpijaaDoor.rv
open Go.RV Go.RowKit Go.Proofs Sx
theorem info118 : (Tryd.prog.info? 118).map (fun i => (i.zero, i.size, i.bytes)) = some (some (.slice none 0 0), 1, 24) := by kernel_rfl
theorem info96 : (Tryd.prog.info? 96).map (fun i => (i.zero, i.size, i.bytes)) = some (some (.agg #[.int .i64 0, .int .i64 0, .int .i64 0, .bool false]), 4, 32) := by kernel_rfl
structure Tb (w wr : World) (N : Nat) (V : Nat → Value) (n : Nat → Nat) (X : Nat → List Value) : Prop where
 since : w.Since w.heap.size wr
 sz : w.heap.size < wr.heap.size
 top : wr.rowIs w.heap.size 118 N V
 own : ∀ v, v < N → wr.ownsRow (w.heap.size + 1) 96 4 (V v) (n v) (X v)
 apart : ∀ u v, u < N → v < N → u ≠ v → ∀ g, (V u).ownBlock = some g → (V v).ownBlock ≠ some g
theorem ownsRow_since {w w' : World} {base : Nat} {e : TypeId} {size : Nat} {v : Value} {n : Nat} {xs : List Value} (h : w.ownsRow base e size v n xs) (hs : w.Since w.heap.size w') : w'.ownsRow base e size v n xs := by
 obtain ⟨h1, h2⟩ := h
 refine ⟨h1, ?_⟩
 rcases h2 with h2 | ⟨g, cap, cur, e1, e2, e3, e4⟩
 ·exact .inl h2
 ·exact .inr ⟨g, cap, cur, e1, e2, by rw [hs.block g (Array.getElem?_eq_some_iff.1 e3).1]; exact e3, e4⟩
theorem Tb.keep {w wr w' : World} {N : Nat} {V : Nat → Value} {n : Nat → Nat} {X : Nat → List Value} (h : Tb w wr N V n X) (hs : wr.Since wr.heap.size w') : Tb w w' N V n X := by
 refine ⟨⟨hs.os.trans h.since.os, hs.tape.trans h.since.tape, hs.output.trans h.since.output, Nat.le_trans h.since.size hs.size, fun k hk => ?_⟩, Nat.lt_of_lt_of_le h.sz hs.size, h.top.of_block (hs.block _ h.top.lt), fun v hv => ownsRow_since (h.own v hv) hs, h.apart⟩
 rw [hs.block k (Nat.lt_of_lt_of_le hk h.since.size)]
 exact h.since.block k hk
theorem Tb.append {w w1 w2 : World} {N : Nat} {V : Nat → Value} {n : Nat → Nat} {X : Nat → List Value} (h : Tb w w1 N V n X) {a : Nat} (ha : a < N) {g cap m : Nat} {xs : List Value} (hown : w2.ownsRow (w.heap.size + 1) 96 4 (.slice (some ⟨g, 0, none⟩) m cap) m xs)
  (hgrow : w1.grownBy w2 (V a).ownBlock) (hat : (V a).ownBlock = some g ∨ g = w1.heap.size) :
  Tb w (w2.setCell ⟨w.heap.size, a, none⟩ (.slice (some ⟨g, 0, none⟩) m cap)) N (fun v => if v = a then .slice (some ⟨g, 0, none⟩) m cap else V v) (fun v => if v = a then m else n v) (fun v => if v = a then xs else X v) := by
 have hlt := fun v hv => (h.own v hv).lt
 have hne : ∀ v, v < N → (V v).ownBlock ≠ some w.heap.size := fun v hv e => by have := (hlt v hv _ e).1; omega
 have hg1 : w.heap.size + 1 ≤ g := (hown.lt g rfl).1
 obtain ⟨_, _, _, hsz, hq⟩ := id hgrow
 have hblk : ∀ k, k < w1.heap.size → (V a).ownBlock ≠ some k → w2.heap[k]? = w1.heap[k]? := fun k hk hn => hq k hk (fun e => hn e.symm)
 refine ⟨?_, ?_, ?_, fun v hv => ?_, fun u v hu hv huv => ?_⟩
 ·exact (h.since.grown hgrow h.since.size fun k hk => by have := (hlt a ha k hk).1; omega).setCell (Nat.le_refl _) _
 ·have := h.sz; simp; omega
 ·exact (h.top.of_block (hblk _ h.top.lt (hne a ha))).set a _
 ·have hset : ∀ {v : Value} {n : Nat} {xs : List Value}, w2.ownsRow (w.heap.size + 1) 96 4 v n xs → (w2.setCell ⟨w.heap.size, a, none⟩ (.slice (some ⟨g, 0, none⟩) m cap)).ownsRow (w.heap.size + 1) 96 4 v n xs := by
   intro v n xs hh
   obtain ⟨h1, h2⟩ := hh
   refine ⟨h1, ?_⟩
   rcases h2 with h2 | ⟨q, c, cur, e1, e2, e3, e4⟩
   ·exact .inl h2
   ·exact .inr ⟨q, c, cur, e1, e2, by rw [← e3]; simp [World.setCell, Array.getElem?_modify]; omega, e4⟩
  by_cases e : v = a
  ·subst e
   simp only [if_true]
   exact hset hown
  ·simp only [if_neg e]
   refine hset ((h.own v hv).kept hgrow ?_)
   cases hb : (V v).ownBlock with
   | none => exact .inl rfl
   | some k => exact .inr fun hh => h.apart v a hv ha e k hb hh.symm
 ·intro k hk
  by_cases e1 : u = a
  ·subst e1
   simp only [if_true, Value.ownBlock, si0] at hk
   subst hk
   rw [if_neg (Ne.symm huv)]
   rcases hat with hat | hat
   ·exact h.apart u v hu hv huv g hat
   ·intro hh; have := (hlt v hv _ hh).2; omega
  ·rw [if_neg e1] at hk
   by_cases e2 : v = a
   ·subst e2
    simp only [if_true, Value.ownBlock]
    intro hh
    simp only [si0] at hh
    subst hh
    rcases hat with hat | hat
    ·exact h.apart u v hu hv huv g hk hat
    ·have := (hlt u hu _ hk).2; omega
   ·rw [if_neg e2]
    exact h.apart u v hu hv huv k hk
def cellsSp (s : Sp) : List Value := [.int .i64 s.to, .int .i64 s.len, .int .i64 s.bound, .bool s.back]
structure Tg (w wr : World) (N : Nat) (G : List (List Sp)) (V : Nat → Value) : Prop where
 len : G.length = N
 tb : Tb w wr N V (fun v => (G.getD v []).length) (fun v => (G.getD v []).flatMap cellsSp)
theorem getD_addAt {G : List (List Sp)} {a : Nat} {s : Sp} (ha : a < G.length) (v : Nat) : (addAt G a s).getD v [] = if v = a then G.getD a [] ++ [s] else G.getD v [] := by
 unfold addAt
 rw [List.getD_eq_getElem?_getD, List.getElem?_set]
 by_cases h : a = v
 ·subst h; simp [ha]
 ·rw [if_neg h, if_neg (Ne.symm h), ← List.getD_eq_getElem?_getD]
theorem Tg.add {w w1 w2 : World} {N : Nat} {G : List (List Sp)} {V : Nat → Value} (h : Tg w w1 N G V) {a : Nat} (ha : a < N) {s : Sp} {g cap : Nat}
  (hown : w2.ownsRow (w.heap.size + 1) 96 4 (.slice (some ⟨g, 0, none⟩) ((G.getD a []).length + 1) cap) ((G.getD a []).length + 1) ((G.getD a []).flatMap cellsSp ++ cellsSp s))
  (hgrow : w1.grownBy w2 (V a).ownBlock) (hat : (V a).ownBlock = some g ∨ g = w1.heap.size) :
  ∃ V', Tg w (w2.setCell ⟨w.heap.size, a, none⟩ (.slice (some ⟨g, 0, none⟩) ((G.getD a []).length + 1) cap)) N (addAt G a s) V' ∧ ∀ k, k < w1.heap.size → (∀ v, v < N → (V v).ownBlock ≠ some k) → ∀ v, v < N → (V' v).ownBlock ≠ some k := by
 obtain ⟨hl, hT⟩ := h
 refine ⟨fun v => if v = a then .slice (some ⟨g, 0, none⟩) ((G.getD a []).length + 1) cap else V v, ⟨by rw [addAt_length]; exact hl, ?_⟩, fun k hk hn v hv => ?_⟩
 ·have h1 := hT.append ha hown hgrow hat
  have e1 : (fun v => ((addAt G a s).getD v []).length) = fun v => if v = a then (G.getD a []).length + 1 else (G.getD v []).length := by
   funext v
   rw [getD_addAt (by rw [hl]; exact ha)]
   split <;> simp
  have e2 : (fun v => ((addAt G a s).getD v []).flatMap cellsSp) = fun v => if v = a then (G.getD a []).flatMap cellsSp ++ cellsSp s else (G.getD v []).flatMap cellsSp := by
   funext v
   rw [getD_addAt (by rw [hl]; exact ha)]
   split <;> simp
  rw [e1, e2]
  exact h1
 ·simp only
  split
  ·simp only [Value.ownBlock, ne_eq, si0]
   rintro rfl
   rcases hat with hat | hat
   ·exact hn a ha hat
   ·omega
  ·exact hn v hv
theorem Tg.keep {w wr w' : World} {N : Nat} {G : List (List Sp)} {V : Nat → Value} (h : Tg w wr N G V) (hs : wr.Since wr.heap.size w') : Tg w w' N G V := ⟨h.1, h.2.keep hs⟩
def GP (fr tq : Nat → Nat) (len ff : Nat → Int) (N : Nat) : Nat → List (List Sp)
 | 0 => List.replicate N []
 | r + 1 => if 0 < ff r then addAt (addAt (GP fr tq len ff N r) (fr r) ⟨tq r, len r, r, false⟩) (tq r) ⟨fr r, -len r, r, true⟩ else addAt (GP fr tq len ff N r) (fr r) ⟨tq r, len r, r, false⟩
theorem len_addAt_le {G : List (List Sp)} {a : Nat} {s : Sp} (ha : a < G.length) (v k : Nat) (h : (G.getD v []).length ≤ k) : ((addAt G a s).getD v []).length ≤ k + 1 := by
 rw [getD_addAt ha]
 split
 ·rename_i e; subst e; rw [List.length_append]; simp only [List.length_singleton]; omega
 ·omega
set_option maxHeartbeats 6400000 in
set_option maxRecDepth 1000000 in
theorem stepsWalk (w : World) (pb po N nb bb bo bc fb fo fc nf : Nat) (ba fa : Option Addr) (fr tq : Nat → Nat) (len wt ff : Nat → Int)
    (hp0 : w.cell? ⟨pb, po, none⟩ = some (.int .i64 N)) (hp1 : w.cell? ⟨pb, po + 1, none⟩ = some (.slice ba nb bc)) (hp2 : w.cell? ⟨pb, po + 2, none⟩ = some (.slice fa nf fc)) (hba : 0 < nb → ba = some ⟨bb, bo, none⟩ ∧ fa = some ⟨fb, fo, none⟩) (hN : N ≤ 2048) (hnf : nb ≤ nf) (hnb : nb ≤ 4096)
    (hB : ∀ i, i < nb → w.cell? ⟨bb, bo + i * 4, none⟩ = some (.int .i64 (fr i)) ∧ w.cell? ⟨bb, bo + i * 4 + 1, none⟩ = some (.int .i64 (tq i)) ∧ w.cell? ⟨bb, bo + i * 4 + 2, none⟩ = some (.int .i64 (len i)) ∧ w.cell? ⟨bb, bo + i * 4 + 3, none⟩ = some (.int .i64 (wt i)))
    (hf : ∀ i, i < nb → w.cell? ⟨fb, fo + i, none⟩ = some (.int .i64 (ff i))) (hfr : ∀ i, i < nb → fr i < N) (hto : ∀ i, i < nb → tq i < N) (hlen : ∀ i, i < nb → -16777216 ≤ len i ∧ len i ≤ 16777216) :
    Calls Tryd.prog 74 #[.pointer (some ⟨pb, po, none⟩)] w fun e w' => ∃ V, e = .returned (.slice (some ⟨w.heap.size, 0, none⟩) N N) ∧ Tg w w' N (GP fr tq len ff N nb) V := by
  have hmk := run_make_row' (P := Tryd.prog) 115 118 (.slice none 0 0) 24 Tryd.underlying115 info118 rfl .i64 .i64 N (by omega) (by omega)
  have lp := World.block_lt_of_cell? w _ hp1
  have hp1' : ∀ o, (w.alloc o).cell? ⟨pb, po + 1, none⟩ = some (.slice ba nb bc) := fun o => by rw [World.cell?_alloc_old _ _ _ (by show pb ≠ w.heap.size; have : pb < w.heap.size := lp; omega)]; exact hp1
  obtain ⟨i0, hi0, hz0, hz1, hz2⟩ := info_parts info96
  go_enter Tryd.func74, Tryd.ntmps74
  go_wp2
  clear hmk
  go_loopg [18] nb (fun g i wr => ∃ (r : Nat) (V : Nat → Value), r ≤ nb ∧ g = nb - r ∧ i = .int .i64 r ∧ Tg w wr N (GP fr tq len ff N r) V ∧ ∀ v, ((GP fr tq len ff N r).getD v []).length ≤ 2 * r)
  case atStart =>
    refine ⟨0, fun _ => .slice none 0 0, Nat.zero_le _, rfl, rfl, ⟨by simp [GP], ⟨(World.Since.refl _ _).alloc (Nat.le_refl _) _, by simp, World.rowIs_made w _ N 118, fun v hv => ?_, fun u v _ _ _ g hg => by cases hg⟩⟩, fun v => ?_⟩
    · simp only [GP, List.getD_eq_getElem?_getD, List.getElem?_replicate, hv, if_true, Option.getD_some]
      exact World.ownsRow_nil _ _ _ _
    · simp only [GP, List.getD_eq_getElem?_getD, List.getElem?_replicate]
      split <;> simp
  case round =>
    obtain ⟨r, V, hr, rfl, rfl, hG, hn2⟩ := hrel
    by_cases hrb : r < nb
    · obtain ⟨rfl, rfl⟩ := hba (by omega)
      have hrz : (r : Int) < (nb : Int) := by omega
      have hT := hG.tb
      obtain ⟨b0, b1, b2, b3⟩ := hB r hrb
      have lb := World.block_lt_of_cell? w _ b0
      have c0 : wr.cell? ⟨bb, bo + r * 4, none⟩ = some (.int .i64 (fr r)) := by rw [hT.since.cell (a := ⟨bb, _, none⟩) lb]; exact b0
      have c1 : wr.cell? ⟨bb, bo + r * 4 + 1, none⟩ = some (.int .i64 (tq r)) := by rw [hT.since.cell (a := ⟨bb, bo + r * 4 + 1, none⟩) lb]; exact b1
      have c2 : wr.cell? ⟨bb, bo + r * 4 + 2, none⟩ = some (.int .i64 (len r)) := by rw [hT.since.cell (a := ⟨bb, bo + r * 4 + 2, none⟩) lb]; exact b2
      have c3 : wr.cell? ⟨bb, bo + r * 4 + 3, none⟩ = some (.int .i64 (wt r)) := by rw [hT.since.cell (a := ⟨bb, bo + r * 4 + 3, none⟩) lb]; exact b3
      go_wp2
      clear b0 b1 b2 b3 c0 c1 c2 c3 lb hB
      have hF := hfr r hrb
      have hFz : (fr r : Int) < (N : Int) := by omega
      have hF0 : (0 : Int) ≤ (fr r : Int) := Int.natCast_nonneg _
      have hown := hT.own (fr r) hF
      have a0 : (V (fr r)).ownBlock ≠ some wr.heap.size := fun e => by have := (hown.lt _ e).2; omega
      have a1 : (V (fr r)).ownBlock ≠ some w.heap.size := fun e => by have := (hown.lt _ e).1; omega
      have lw := hT.sz
      obtain ⟨BK, hBK⟩ : ∃ BK, BK = Obj.cells #[Value.int IntKind.i64 (fr r), Value.int IntKind.i64 (tq r), Value.int IntKind.i64 (len r), Value.int IntKind.i64 (wt r)] 38 := ⟨_, rfl⟩
      have k0 : (wr.alloc BK).cell? ⟨wr.heap.size, 0, none⟩ = some (.int .i64 (fr r)) := by rw [hBK, cell_at (heap_alloc_new wr _)]; rfl
      have k1 : (wr.alloc BK).cell? ⟨wr.heap.size, 1, none⟩ = some (.int .i64 (tq r)) := by rw [hBK, cell_at (heap_alloc_new wr _)]; rfl
      have k2 : (wr.alloc BK).cell? ⟨wr.heap.size, 2, none⟩ = some (.int .i64 (len r)) := by rw [hBK, cell_at (heap_alloc_new wr _)]; rfl
      rw [← hBK]
      clear hBK
      go_cut [] from 23 to 66 (fun wx => ∃ V', Tg w wx N (addAt (GP fr tq len ff N r) (fr r) ⟨tq r, len r, r, false⟩) V' ∧ (∀ v, v < N → (V' v).ownBlock ≠ some wr.heap.size) ∧ wr.heap.size < wx.heap.size ∧
        wx.cell? ⟨wr.heap.size, 0, none⟩ = some (.int .i64 (fr r)) ∧ wx.cell? ⟨wr.heap.size, 1, none⟩ = some (.int .i64 (tq r)) ∧ wx.cell? ⟨wr.heap.size, 2, none⟩ = some (.int .i64 (len r)))
      case first =>
        have t0 : (wr.alloc BK).cell? ⟨w.heap.size, fr r, none⟩ = some (V (fr r)) := (hT.top.alloc _).cell hF
        have t1 : (wr.alloc BK).frozen? ⟨w.heap.size, fr r, none⟩ = false := (hT.top.alloc _).frozen _
        have t2 : ∀ o, ((wr.alloc BK).alloc o).drew.frozen? ⟨w.heap.size, fr r, none⟩ = false := fun o => ((hT.top.alloc _).alloc _).frozen _
        have hnr := hn2 (fr r)
        have hsz1 : ∀ o o' : Obj, ((wr.alloc o).alloc o').heap[wr.heap.size + 1]? = some o' := fun o o' => by have := heap_alloc_new (wr.alloc o) o'; simpa using this
        have t3 : ∀ o, ((wr.alloc BK).alloc o).cell? ⟨w.heap.size, fr r, none⟩ = some (V (fr r)) := fun o => ((hT.top.alloc _).alloc _).cell hF
        refine wp_region_noPanic ?_
        refine wp_region_held_drew (S := (fun w' => w'.cell? ⟨wr.heap.size, 0, none⟩ = some (.int .i64 (fr r)) ∧ w'.cell? ⟨wr.heap.size, 1, none⟩ = some (.int .i64 (tq r)) ∧ w'.cell? ⟨wr.heap.size, 2, none⟩ = some (.int .i64 (len r)))) (by kernel_rfl) ?_ (fun hHeld => ?_)
        · try dsimp only
          go_keep
        refine wpAnyH_take (i := 0) (v := ?_) rfl (by kernel_rfl) (by kernel_rfl) (by kernel_rfl) (fun _ _ _ h => h) (Or.inl ⟨by rfl, ?_⟩) (by assumption) ?_
        rotate_left 1
        · (intro w hSw; (try dsimp only at hSw); (try simp only [List.getElem_toArray, List.getElem_cons_zero]); go_simp; try with_reducible rfl)
        try simp only [Act.put, List.setIfInBounds_toArray]
        refine wpAnyH_take (i := 1) (v := ?_) rfl (by kernel_rfl) (by kernel_rfl) (by kernel_rfl) (fun _ _ _ h => h) (Or.inl ⟨by rfl, ?_⟩) (by assumption) ?_
        rotate_left 1
        · (intro w hSw; (try dsimp only at hSw); (try simp only [List.getElem_toArray, List.getElem_cons_zero, List.getElem_cons_succ]); go_simp; try with_reducible rfl)
        try simp only [Act.put]
        refine wpAnyH_take (i := 2) (v := ?_) rfl (by kernel_rfl) (by kernel_rfl) (by kernel_rfl) (fun _ _ _ h => h) (Or.inl ⟨by rfl, ?_⟩) (by assumption) ?_
        rotate_left 1
        · (intro w hSw; (try dsimp only at hSw); (try simp only [List.getElem_toArray, List.getElem_cons_zero, List.getElem_cons_succ]); go_simp; try with_reducible rfl)
        try simp only [Act.put]
        refine wpAnyH_take (i := 3) (v := ?_) rfl (by kernel_rfl) (by kernel_rfl) (by kernel_rfl) (fun _ _ _ h => h) (Or.inl ⟨by rfl, ?_⟩) (by assumption) ?_
        rotate_left 1
        · (intro w hSw; (try dsimp only at hSw); (try simp only [List.getElem_toArray, List.getElem_cons_zero, List.getElem_cons_succ]); go_simp; try with_reducible rfl)
        try simp only [Act.put]
        refine wpAnyH_take (i := 4) (v := ?_) rfl (by kernel_rfl) (by kernel_rfl) (by kernel_rfl) (fun _ _ _ h => h) (Or.inl ⟨by rfl, ?_⟩) (by assumption) ?_
        rotate_left 1
        · (intro w hSw; (try dsimp only at hSw); (try simp only [List.getElem_toArray, List.getElem_cons_zero, List.getElem_cons_succ]); go_simp; try with_reducible rfl)
        try simp only [Act.put]
        refine wpAnyH_take (i := 5) (v := ?_) rfl (by kernel_rfl) (by kernel_rfl) (by kernel_rfl) (fun _ _ _ h => h) (Or.inl ⟨by rfl, ?_⟩) (by assumption) ?_
        rotate_left 1
        · (intro w hSw; (try dsimp only at hSw); (try simp only [List.getElem_toArray, List.getElem_cons_zero, List.getElem_cons_succ]); go_simp; try with_reducible rfl)
        try simp only [Act.put]
        refine wpAnyH_take (i := 6) (v := ?_) rfl (by kernel_rfl) (by kernel_rfl) (by kernel_rfl) (fun _ _ _ h => h) (Or.inl ⟨by rfl, ?_⟩) (by assumption) ?_
        rotate_left 1
        · (intro w hSw; (try dsimp only at hSw); (try simp only [List.getElem_toArray, List.getElem_cons_zero, List.getElem_cons_succ]); go_simp; try with_reducible rfl)
        try simp only [Act.put]
        refine wpAnyH_take (i := 8) (v := ?_) rfl (by kernel_rfl) (by kernel_rfl) (by kernel_rfl) (fun _ _ _ h => h) (Or.inl ⟨by rfl, ?_⟩) (by assumption) ?_
        rotate_left 1
        · (intro w hSw; (try dsimp only at hSw); (try simp only [List.getElem_toArray, List.getElem_cons_zero, List.getElem_cons_succ]); go_simp; try with_reducible rfl)
        try simp only [Act.put]
        refine wpAnyH_take (i := 9) (v := ?_) rfl (by kernel_rfl) (by kernel_rfl) (by kernel_rfl) (fun _ _ _ h => h) (Or.inl ⟨by rfl, ?_⟩) (by assumption) ?_
        rotate_left 1
        · (intro w hSw; (try dsimp only at hSw); (try simp only [List.getElem_toArray, List.getElem_cons_zero, List.getElem_cons_succ]); go_simp; try with_reducible rfl)
        try simp only [Act.put]
        refine wpAnyH_take (i := 10) (v := ?_) rfl (by kernel_rfl) (by kernel_rfl) (by kernel_rfl) (fun _ _ _ h => h) (Or.inl ⟨by rfl, ?_⟩) (by assumption) ?_
        rotate_left 1
        · (intro w hSw; (try dsimp only at hSw); (try simp only [List.getElem_toArray, List.getElem_cons_zero, List.getElem_cons_succ]); go_simp; try with_reducible rfl)
        try simp only [Act.put]
        refine wpAnyH_take (i := 11) (v := ?_) rfl (by kernel_rfl) (by kernel_rfl) (by kernel_rfl) (fun _ _ _ h => h) (Or.inl ⟨by rfl, ?_⟩) (by assumption) ?_
        rotate_left 1
        · (intro w hSw; (try dsimp only at hSw); (try simp only [List.getElem_toArray, List.getElem_cons_zero, List.getElem_cons_succ]); go_simp; try with_reducible rfl)
        try simp only [Act.put]
        refine wpAnyH_take (i := 12) (v := ?_) rfl (by kernel_rfl) (by kernel_rfl) (by kernel_rfl) (fun _ _ _ h => h) (Or.inl ⟨by rfl, ?_⟩) (by assumption) ?_
        rotate_left 1
        · (intro w hSw; (try dsimp only at hSw); (try simp only [List.getElem_toArray, List.getElem_cons_zero, List.getElem_cons_succ]); go_simp; try with_reducible rfl)
        try simp only [Act.put]
        refine wpAnyH_take (i := 13) (v := ?_) rfl (by kernel_rfl) (by kernel_rfl) (by kernel_rfl) (fun _ _ _ h => h) (Or.inl ⟨by rfl, ?_⟩) (by assumption) ?_
        rotate_left 1
        · (intro w hSw; (try dsimp only at hSw); (try simp only [List.getElem_toArray, List.getElem_cons_zero, List.getElem_cons_succ]); go_simp; try with_reducible rfl)
        try simp only [Act.put]
        refine wpAnyH_ready (rs := [7, 14]) (by kernel_rfl) (by simp) ?_
        refine AllReadyH.cons rfl (fun K hK => ?_) (AllReadyH.cons rfl (fun K hK => ?_) AllReadyH.nil)
        try simp only [List.getElem_toArray, List.getElem_cons_zero, List.getElem_cons_succ]
        go_simp
        refine hK.out _ _ ?_ (fun hHeld => ?_)
        · try dsimp only
          go_keep
        clear hK K
        try simp only [List.getElem_toArray, List.getElem_cons_zero, List.getElem_cons_succ]
        try simp only [Act.put, List.setIfInBounds_toArray, List.set_cons_zero, List.set_cons_succ]
        refine wpAnyH_ready (rs := [14]) (by kernel_rfl) (by simp) ?_
        refine AllReadyH.cons rfl (fun K hK => ?_) AllReadyH.nil
        try simp only [List.getElem_toArray, List.getElem_cons_zero, List.getElem_cons_succ]
        go_simp
        refine hK.out _ _ ?_ (fun hHeld => ?_)
        · try dsimp only
          first | go_keep | (go_split_ands; refine ⟨?_, ?_, ?_⟩ <;> (rw [World.cell?_alloc_old _ _ _ (by simp; omega)]; assumption))
        clear hK K
        try simp only [List.getElem_toArray, List.getElem_cons_zero, List.getElem_cons_succ]
        try simp only [Act.put, List.setIfInBounds_toArray, List.set_cons_zero, List.set_cons_succ]
        refine wpAnyH_ready (rs := [15]) (by kernel_rfl) (by simp) ?_
        refine AllReadyH.cons rfl (fun K hK => ?_) AllReadyH.nil
        refine step_append_lies _ (by rfl) _ _ _ (by rfl) (w.heap.size + 1) 96 i0 _ 4 32 Tryd.underlying118 hi0 hz0 hz1 hz2 rfl (by omega) (V (fr r)) ((GP fr tq len ff N r).getD (fr r) []).length (((GP fr tq len ff N r).getD (fr r) []).flatMap cellsSp) (by rfl) (((hown.alloc _).alloc _).drew) ⟨wr.heap.size + 1, 0, none⟩ 1 1 [.int .i64 (tq r), .int .i64 (len r), .int .i64 r, .bool false] (by rfl) (by rfl) (World.news_of_block (cs := #[.int .i64 (tq r), .int .i64 (len r), .int .i64 r, .bool false]) (t := 96) (fr := (0, 0)) (hsz1 _ _)) (by simp [Value.oneCell']) (by omega) (by unfold maxLen; omega) (by omega) (by simp; omega) (wr.heap.size + 2) (by simp) ?_
        intro gg cap w1 hown1 hgrow hat hlt
        have e1 : w1.cell? ⟨w.heap.size, fr r, none⟩ = some (V (fr r)) := (hgrow.cell_far _ (by simp; omega) (Ne.symm a1)).trans (((hT.top.alloc _).alloc _).cell hF)
        have e2 : w1.frozen? ⟨w.heap.size, fr r, none⟩ = false := (hgrow.frozen_far _ (by simp; omega) (Ne.symm a1)).trans (((hT.top.alloc _).alloc _).frozen _)
        refine hK.out _ _ ?_ (fun hHeld => ?_)
        · try dsimp only
          go_split_ands; refine ⟨?_, ?_, ?_⟩ <;> (rw [hgrow.cell_far _ (by simp; omega) (Ne.symm a0)]; assumption)
        clear hK K
        try simp only [List.getElem_toArray, List.getElem_cons_zero, List.getElem_cons_succ]
        try simp only [Act.put, List.setIfInBounds_toArray, List.set_cons_zero, List.set_cons_succ]
        refine wpAnyH_take (i := 16) (v := ?_) rfl (by kernel_rfl) (by kernel_rfl) (by kernel_rfl) (fun _ _ _ h => h) (Or.inl ⟨by rfl, ?_⟩) (by assumption) ?_
        rotate_left 1
        · (intro w hSw; (try dsimp only at hSw); (try simp only [List.getElem_toArray, List.getElem_cons_zero, List.getElem_cons_succ]); go_simp; try with_reducible rfl)
        try simp only [Act.put, List.setIfInBounds_toArray]
        refine wpAnyH_ready (rs := [17]) (by kernel_rfl) (by simp) ?_
        refine AllReadyH.cons rfl (fun K hK => ?_) AllReadyH.nil
        try simp only [List.getElem_toArray, List.getElem_cons_zero, List.getElem_cons_succ]
        go_simp
        refine hK.out _ _ ?_ (fun hHeld => ?_)
        · try dsimp only
          go_split_ands; refine ⟨?_, ?_, ?_⟩ <;> (rw [World.cell?_setCell_other _ _ _ _ (fun e => by have := congrArg Addr.block e; simp at this; omega)]; assumption)
        clear hK K
        try simp only [List.getElem_toArray, List.getElem_cons_zero, List.getElem_cons_succ]
        try simp only [Act.put, List.setIfInBounds_toArray, List.set_cons_zero, List.set_cons_succ]
        refine wpAnyH_done (by kernel_rfl) ?_ _
        refine NoPanic.normal ?_
        rotate_left 1
        try simp only [List.getElem_toArray, List.getElem_cons_zero, List.getElem_cons_succ]
        go_simp
        refine hK.out _ _ ?_ (fun hHeld => ?_)
        · try dsimp only
          first | go_keep | (go_split_ands; refine ⟨?_, ?_, ?_⟩ <;> (rw [World.cell?_alloc_old _ _ _ (by simp; omega)]; assumption))
        clear hK K
        try simp only [List.getElem_toArray, List.getElem_cons_zero, List.getElem_cons_succ]
        try simp only [Act.put, List.setIfInBounds_toArray, List.set_cons_zero, List.set_cons_succ]
        refine wpAnyH_ready (rs := [7]) (by kernel_rfl) (by simp) ?_
        refine AllReadyH.cons rfl (fun K hK => ?_) AllReadyH.nil
        try simp only [List.getElem_toArray, List.getElem_cons_zero, List.getElem_cons_succ]
        go_simp
        refine hK.out _ _ ?_ (fun hHeld => ?_)
        · try dsimp only
          go_keep
        clear hK K
        try simp only [List.getElem_toArray, List.getElem_cons_zero, List.getElem_cons_succ]
        try simp only [Act.put, List.setIfInBounds_toArray, List.set_cons_zero, List.set_cons_succ]
        refine wpAnyH_ready (rs := [15]) (by kernel_rfl) (by simp) ?_
        refine AllReadyH.cons rfl (fun K hK => ?_) AllReadyH.nil
        refine step_append_lies _ (by rfl) _ _ _ (by rfl) (w.heap.size + 1) 96 i0 _ 4 32 Tryd.underlying118 hi0 hz0 hz1 hz2 rfl (by omega) (V (fr r)) ((GP fr tq len ff N r).getD (fr r) []).length (((GP fr tq len ff N r).getD (fr r) []).flatMap cellsSp) (by rfl) (((hown.alloc _).alloc _).drew) ⟨wr.heap.size + 1, 0, none⟩ 1 1 [.int .i64 (tq r), .int .i64 (len r), .int .i64 r, .bool false] (by rfl) (by rfl) (World.news_of_block (cs := #[.int .i64 (tq r), .int .i64 (len r), .int .i64 r, .bool false]) (t := 96) (fr := (0, 0)) (hsz1 _ _)) (by simp [Value.oneCell']) (by omega) (by unfold maxLen; omega) (by omega) (by simp; omega) (wr.heap.size + 2) (by simp) ?_
        intro gg cap w1 hown1 hgrow hat hlt
        have e1 : w1.cell? ⟨w.heap.size, fr r, none⟩ = some (V (fr r)) := (hgrow.cell_far _ (by simp; omega) (Ne.symm a1)).trans (((hT.top.alloc _).alloc _).cell hF)
        have e2 : w1.frozen? ⟨w.heap.size, fr r, none⟩ = false := (hgrow.frozen_far _ (by simp; omega) (Ne.symm a1)).trans (((hT.top.alloc _).alloc _).frozen _)
        refine hK.out _ _ ?_ (fun hHeld => ?_)
        · try dsimp only
          go_split_ands; refine ⟨?_, ?_, ?_⟩ <;> (rw [hgrow.cell_far _ (by simp; omega) (Ne.symm a0)]; assumption)
        clear hK K
        try simp only [List.getElem_toArray, List.getElem_cons_zero, List.getElem_cons_succ]
        try simp only [Act.put, List.setIfInBounds_toArray, List.set_cons_zero, List.set_cons_succ]
        refine wpAnyH_take (i := 16) (v := ?_) rfl (by kernel_rfl) (by kernel_rfl) (by kernel_rfl) (fun _ _ _ h => h) (Or.inl ⟨by rfl, ?_⟩) (by assumption) ?_
        rotate_left 1
        · (intro w hSw; (try dsimp only at hSw); (try simp only [List.getElem_toArray, List.getElem_cons_zero, List.getElem_cons_succ]); go_simp; try with_reducible rfl)
        try simp only [Act.put, List.setIfInBounds_toArray]
        refine wpAnyH_ready (rs := [17]) (by kernel_rfl) (by simp) ?_
        refine AllReadyH.cons rfl (fun K hK => ?_) AllReadyH.nil
        try simp only [List.getElem_toArray, List.getElem_cons_zero, List.getElem_cons_succ]
        go_simp
        refine hK.out _ _ ?_ (fun hHeld => ?_)
        · try dsimp only
          go_split_ands; refine ⟨?_, ?_, ?_⟩ <;> (rw [World.cell?_setCell_other _ _ _ _ (fun e => by have := congrArg Addr.block e; simp at this; omega)]; assumption)
        clear hK K
        try simp only [List.getElem_toArray, List.getElem_cons_zero, List.getElem_cons_succ]
        try simp only [Act.put, List.setIfInBounds_toArray, List.set_cons_zero, List.set_cons_succ]
        refine wpAnyH_done (by kernel_rfl) ?_ _
        refine NoPanic.normal ?_
        rotate_left 1
        all_goals go_wp2_with fail
        all_goals
          (go_meet
           case rel =>
           go_light
           have kk : ∀ o i v, (wr.alloc BK).cell? ⟨wr.heap.size, i, none⟩ = some v → ((wr.alloc BK).alloc o).drew.cell? ⟨wr.heap.size, i, none⟩ = some v := fun o i v h => (World.cell?_alloc_old _ _ _ (by simp)).trans h
           have hs0 : wr.Since wr.heap.size (wr.alloc BK) := (World.Since.refl _ _).alloc (Nat.le_refl _) _
           have hlm : ∀ o, wr.Since wr.heap.size ((wr.alloc BK).alloc o).drew := fun o => (hs0.alloc (by simp) _).drew
           obtain ⟨V', hA, hO⟩ := (hG.keep (hlm _)).add (s := ⟨tq r, len r, r, false⟩) hF hown1 hgrow (by simpa using hat)
           have hsz2 : wr.heap.size < w1.heap.size := by obtain ⟨_, _, _, hq, _⟩ := id hgrow; simp at hq; omega
           refine ⟨V', hA, hO wr.heap.size (by simp; omega) (fun v hv e => by have := ((hT.own v hv).lt _ e).2; omega), by simpa using hsz2, ?_, ?_, ?_⟩
           · exact (World.cell?_setCell_other _ _ _ _ (fun e => by have := congrArg Addr.block e; simp at this; omega)).trans ((hgrow.cell_far _ (by simp; omega) (Ne.symm a0)).trans (kk _ _ _ k0))
           · exact (World.cell?_setCell_other _ _ _ _ (fun e => by have := congrArg Addr.block e; simp at this; omega)).trans ((hgrow.cell_far _ (by simp; omega) (Ne.symm a0)).trans (kk _ _ _ k1))
           · exact (World.cell?_setCell_other _ _ _ _ (fun e => by have := congrArg Addr.block e; simp at this; omega)).trans ((hgrow.cell_far _ (by simp; omega) (Ne.symm a0)).trans (kk _ _ _ k2)))
      case rest =>
        obtain ⟨V', hG', ho', hs', k0', k1', k2'⟩ := hcut
        clear hown a0 a1 k0 k1 k2
        have hT' := hG'.tb
        have lf := World.block_lt_of_cell? w _ (hf r hrb)
        have f0 : wc.cell? ⟨pb, po + 2, none⟩ = some (.slice (some ⟨fb, fo, none⟩) nf fc) := by rw [hT'.since.cell (a := ⟨pb, po + 2, none⟩) lp]; exact hp2
        have f1 : wc.cell? ⟨fb, fo + r, none⟩ = some (.int .i64 (ff r)) := by rw [hT'.since.cell (a := ⟨fb, fo + r, none⟩) lf]; exact hf r hrb
        have hrf : (r : Int) < (nf : Int) := by omega
        have hr0 : (0 : Int) ≤ (r : Int) := Int.natCast_nonneg _
        by_cases hff : 0 < ff r
        · have hd : decide (0 < ff r) = true := decide_eq_true hff
          go_wp2
          have hQ := hto r hrb
          have hQz : (tq r : Int) < (N : Int) := by omega
          have hQ0 : (0 : Int) ≤ (tq r : Int) := Int.natCast_nonneg _
          have hl := hlen r hrb
          have hng : IntKind.i64.wrap (-len r) = -len r := by rw [wrap_i64]; omega
          have hown := hT'.own (tq r) hQ
          have a0 := ho' (tq r) hQ
          have a1 : (V' (tq r)).ownBlock ≠ some w.heap.size := fun e => by have := (hown.lt _ e).1; omega
          have lw' := hT'.sz
          have t0 : wc.cell? ⟨w.heap.size, tq r, none⟩ = some (V' (tq r)) := hT'.top.cell hQ
          have t1 : wc.frozen? ⟨w.heap.size, tq r, none⟩ = false := hT'.top.frozen _
          have t2 : ∀ o, (wc.alloc o).drew.frozen? ⟨w.heap.size, tq r, none⟩ = false := fun o => (hT'.top.alloc _).frozen _
          have hnr := len_addAt_le (s := ⟨tq r, len r, r, false⟩) (by rw [hG.len]; exact hF) (tq r) _ (hn2 (tq r))
          have hsz1 : ∀ o' : Obj, (wc.alloc o').heap[wc.heap.size]? = some o' := fun o' => heap_alloc_new wc o'
          have t3 : ∀ o, (wc.alloc o).cell? ⟨w.heap.size, tq r, none⟩ = some (V' (tq r)) := fun o => (hT'.top.alloc _).cell hQ
          obtain ⟨G2, hG2⟩ : ∃ G2, G2 = addAt (GP fr tq len ff N r) (fr r) ⟨tq r, len r, r, false⟩ := ⟨_, rfl⟩
          rw [← hG2] at hG' hT' hown hnr
          refine wp_region_noPanic ?_
          refine wp_region_held_drew (S := (fun w' => w'.cell? ⟨wr.heap.size, 0, none⟩ = some (.int .i64 (fr r)) ∧ w'.cell? ⟨wr.heap.size, 1, none⟩ = some (.int .i64 (tq r)) ∧ w'.cell? ⟨wr.heap.size, 2, none⟩ = some (.int .i64 (len r)))) (by kernel_rfl) ?_ (fun hHeld => ?_)
          · try dsimp only
            go_keep
          refine wpAnyH_take (i := 0) (v := ?_) rfl (by kernel_rfl) (by kernel_rfl) (by kernel_rfl) (fun _ _ _ h => h) (Or.inl ⟨by rfl, ?_⟩) (by assumption) ?_
          rotate_left 1
          · (intro w hSw; (try dsimp only at hSw); (try simp only [List.getElem_toArray, List.getElem_cons_zero]); go_simp; try with_reducible rfl)
          try simp only [Act.put, List.setIfInBounds_toArray]
          refine wpAnyH_take (i := 1) (v := ?_) rfl (by kernel_rfl) (by kernel_rfl) (by kernel_rfl) (fun _ _ _ h => h) (Or.inl ⟨by rfl, ?_⟩) (by assumption) ?_
          rotate_left 1
          · (intro w hSw; (try dsimp only at hSw); (try simp only [List.getElem_toArray, List.getElem_cons_zero, List.getElem_cons_succ]); go_simp; try with_reducible rfl)
          try simp only [Act.put]
          refine wpAnyH_take (i := 2) (v := ?_) rfl (by kernel_rfl) (by kernel_rfl) (by kernel_rfl) (fun _ _ _ h => h) (Or.inl ⟨by rfl, ?_⟩) (by assumption) ?_
          rotate_left 1
          · (intro w hSw; (try dsimp only at hSw); (try simp only [List.getElem_toArray, List.getElem_cons_zero, List.getElem_cons_succ]); go_simp; try with_reducible rfl)
          try simp only [Act.put]
          refine wpAnyH_take (i := 3) (v := ?_) rfl (by kernel_rfl) (by kernel_rfl) (by kernel_rfl) (fun _ _ _ h => h) (Or.inl ⟨by rfl, ?_⟩) (by assumption) ?_
          rotate_left 1
          · (intro w hSw; (try dsimp only at hSw); (try simp only [List.getElem_toArray, List.getElem_cons_zero, List.getElem_cons_succ]); go_simp; try with_reducible rfl)
          try simp only [Act.put]
          refine wpAnyH_take (i := 4) (v := ?_) rfl (by kernel_rfl) (by kernel_rfl) (by kernel_rfl) (fun _ _ _ h => h) (Or.inl ⟨by rfl, ?_⟩) (by assumption) ?_
          rotate_left 1
          · (intro w hSw; (try dsimp only at hSw); (try simp only [List.getElem_toArray, List.getElem_cons_zero, List.getElem_cons_succ]); go_simp; try with_reducible rfl)
          try simp only [Act.put]
          refine wpAnyH_take (i := 5) (v := ?_) rfl (by kernel_rfl) (by kernel_rfl) (by kernel_rfl) (fun _ _ _ h => h) (Or.inl ⟨by rfl, ?_⟩) (by assumption) ?_
          rotate_left 1
          · (intro w hSw; (try dsimp only at hSw); (try simp only [List.getElem_toArray, List.getElem_cons_zero, List.getElem_cons_succ]); go_simp; try with_reducible rfl)
          try simp only [Act.put]
          refine wpAnyH_take (i := 6) (v := ?_) rfl (by kernel_rfl) (by kernel_rfl) (by kernel_rfl) (fun _ _ _ h => h) (Or.inl ⟨by rfl, ?_⟩) (by assumption) ?_
          rotate_left 1
          · (intro w hSw; (try dsimp only at hSw); (try simp only [List.getElem_toArray, List.getElem_cons_zero, List.getElem_cons_succ]); go_simp; try with_reducible rfl)
          try simp only [Act.put]
          refine wpAnyH_take (i := 8) (v := ?_) rfl (by kernel_rfl) (by kernel_rfl) (by kernel_rfl) (fun _ _ _ h => h) (Or.inl ⟨by rfl, ?_⟩) (by assumption) ?_
          rotate_left 1
          · (intro w hSw; (try dsimp only at hSw); (try simp only [List.getElem_toArray, List.getElem_cons_zero, List.getElem_cons_succ]); go_simp; try with_reducible rfl)
          try simp only [Act.put]
          refine wpAnyH_take (i := 9) (v := ?_) rfl (by kernel_rfl) (by kernel_rfl) (by kernel_rfl) (fun _ _ _ h => h) (Or.inl ⟨by rfl, ?_⟩) (by assumption) ?_
          rotate_left 1
          · (intro w hSw; (try dsimp only at hSw); (try simp only [List.getElem_toArray, List.getElem_cons_zero, List.getElem_cons_succ]); go_simp; try with_reducible rfl)
          try simp only [Act.put]
          refine wpAnyH_take (i := 10) (v := ?_) rfl (by kernel_rfl) (by kernel_rfl) (by kernel_rfl) (fun _ _ _ h => h) (Or.inl ⟨by rfl, ?_⟩) (by assumption) ?_
          rotate_left 1
          · (intro w hSw; (try dsimp only at hSw); (try simp only [List.getElem_toArray, List.getElem_cons_zero, List.getElem_cons_succ]); go_simp; try with_reducible rfl)
          try simp only [Act.put]
          refine wpAnyH_take (i := 11) (v := ?_) rfl (by kernel_rfl) (by kernel_rfl) (by kernel_rfl) (fun _ _ _ h => h) (Or.inl ⟨by rfl, ?_⟩) (by assumption) ?_
          rotate_left 1
          · (intro w hSw; (try dsimp only at hSw); (try simp only [List.getElem_toArray, List.getElem_cons_zero, List.getElem_cons_succ]); go_simp; try with_reducible rfl)
          try simp only [Act.put]
          refine wpAnyH_take (i := 12) (v := ?_) rfl (by kernel_rfl) (by kernel_rfl) (by kernel_rfl) (fun _ _ _ h => h) (Or.inl ⟨by rfl, ?_⟩) (by assumption) ?_
          rotate_left 1
          · (intro w hSw; (try dsimp only at hSw); (try simp only [List.getElem_toArray, List.getElem_cons_zero, List.getElem_cons_succ]); go_simp; try with_reducible rfl)
          try simp only [Act.put]
          refine wpAnyH_take (i := 13) (v := ?_) rfl (by kernel_rfl) (by kernel_rfl) (by kernel_rfl) (fun _ _ _ h => h) (Or.inl ⟨by rfl, ?_⟩) (by assumption) ?_
          rotate_left 1
          · (intro w hSw; (try dsimp only at hSw); (try simp only [List.getElem_toArray, List.getElem_cons_zero, List.getElem_cons_succ]); go_simp; try with_reducible rfl)
          try simp only [Act.put]
          refine wpAnyH_take (i := 14) (v := ?_) rfl (by kernel_rfl) (by kernel_rfl) (by kernel_rfl) (fun _ _ _ h => h) (Or.inl ⟨by rfl, ?_⟩) (by assumption) ?_
          rotate_left 1
          · (intro w hSw; (try dsimp only at hSw); (try simp only [List.getElem_toArray, List.getElem_cons_zero, List.getElem_cons_succ]); go_simp; try with_reducible rfl)
          try simp only [Act.put]
          refine wpAnyH_ready (rs := [7, 15]) (by kernel_rfl) (by simp) ?_
          refine AllReadyH.cons rfl (fun K hK => ?_) (AllReadyH.cons rfl (fun K hK => ?_) AllReadyH.nil)
          try simp only [List.getElem_toArray, List.getElem_cons_zero, List.getElem_cons_succ]
          go_simp
          refine hK.out _ _ ?_ (fun hHeld => ?_)
          · try dsimp only
            go_keep
          clear hK K
          try simp only [List.getElem_toArray, List.getElem_cons_zero, List.getElem_cons_succ]
          try simp only [Act.put, List.setIfInBounds_toArray, List.set_cons_zero, List.set_cons_succ]
          refine wpAnyH_ready (rs := [15]) (by kernel_rfl) (by simp) ?_
          refine AllReadyH.cons rfl (fun K hK => ?_) AllReadyH.nil
          try simp only [List.getElem_toArray, List.getElem_cons_zero, List.getElem_cons_succ]
          go_simp
          refine hK.out _ _ ?_ (fun hHeld => ?_)
          · try dsimp only
            first | go_keep | (go_split_ands; refine ⟨?_, ?_, ?_⟩ <;> (rw [World.cell?_alloc_old _ _ _ (by simp; omega)]; assumption))
          clear hK K
          try simp only [List.getElem_toArray, List.getElem_cons_zero, List.getElem_cons_succ]
          try simp only [Act.put, List.setIfInBounds_toArray, List.set_cons_zero, List.set_cons_succ]
          refine wpAnyH_ready (rs := [16]) (by kernel_rfl) (by simp) ?_
          refine AllReadyH.cons rfl (fun K hK => ?_) AllReadyH.nil
          refine step_append_lies _ (by rfl) _ _ _ (by rfl) (w.heap.size + 1) 96 i0 _ 4 32 Tryd.underlying118 hi0 hz0 hz1 hz2 rfl (by omega) (V' (tq r)) (G2.getD (tq r) []).length ((G2.getD (tq r) []).flatMap cellsSp) (by rfl) ((hown.alloc _).drew) ⟨wc.heap.size, 0, none⟩ 1 1 [.int .i64 (fr r), .int .i64 (-len r), .int .i64 r, .bool true] (by rfl) (by rfl) (World.news_of_block (cs := #[.int .i64 (fr r), .int .i64 (-len r), .int .i64 r, .bool true]) (t := 96) (fr := (0, 0)) (hsz1 _)) (by simp [Value.oneCell']) (by omega) (by unfold maxLen; omega) (by omega) (by simp; omega) (wc.heap.size + 1) (by simp) ?_
          intro gg cap w1 hown1 hgrow hat hlt
          have e1 : w1.cell? ⟨w.heap.size, tq r, none⟩ = some (V' (tq r)) := (hgrow.cell_far _ (by simp; omega) (Ne.symm a1)).trans ((hT'.top.alloc _).cell hQ)
          have e2 : w1.frozen? ⟨w.heap.size, tq r, none⟩ = false := (hgrow.frozen_far _ (by simp; omega) (Ne.symm a1)).trans ((hT'.top.alloc _).frozen _)
          refine hK.out _ _ ?_ (fun hHeld => ?_)
          · try dsimp only
            go_split_ands; refine ⟨?_, ?_, ?_⟩ <;> (rw [hgrow.cell_far _ (by simp; omega) (Ne.symm a0)]; assumption)
          clear hK K
          try simp only [List.getElem_toArray, List.getElem_cons_zero, List.getElem_cons_succ]
          try simp only [Act.put, List.setIfInBounds_toArray, List.set_cons_zero, List.set_cons_succ]
          refine wpAnyH_take (i := 17) (v := ?_) rfl (by kernel_rfl) (by kernel_rfl) (by kernel_rfl) (fun _ _ _ h => h) (Or.inl ⟨by rfl, ?_⟩) (by assumption) ?_
          rotate_left 1
          · (intro w hSw; (try dsimp only at hSw); (try simp only [List.getElem_toArray, List.getElem_cons_zero, List.getElem_cons_succ]); go_simp; try with_reducible rfl)
          try simp only [Act.put, List.setIfInBounds_toArray]
          refine wpAnyH_ready (rs := [18]) (by kernel_rfl) (by simp) ?_
          refine AllReadyH.cons rfl (fun K hK => ?_) AllReadyH.nil
          try simp only [List.getElem_toArray, List.getElem_cons_zero, List.getElem_cons_succ]
          go_simp
          refine hK.out _ _ ?_ (fun hHeld => ?_)
          · try dsimp only
            go_split_ands; refine ⟨?_, ?_, ?_⟩ <;> (rw [World.cell?_setCell_other _ _ _ _ (fun e => by have := congrArg Addr.block e; simp at this; omega)]; assumption)
          clear hK K
          try simp only [List.getElem_toArray, List.getElem_cons_zero, List.getElem_cons_succ]
          try simp only [Act.put, List.setIfInBounds_toArray, List.set_cons_zero, List.set_cons_succ]
          refine wpAnyH_done (by kernel_rfl) ?_ _
          refine NoPanic.normal ?_
          rotate_left 1
          try simp only [List.getElem_toArray, List.getElem_cons_zero, List.getElem_cons_succ]
          go_simp
          refine hK.out _ _ ?_ (fun hHeld => ?_)
          · try dsimp only
            first | go_keep | (go_split_ands; refine ⟨?_, ?_, ?_⟩ <;> (rw [World.cell?_alloc_old _ _ _ (by simp; omega)]; assumption))
          clear hK K
          try simp only [List.getElem_toArray, List.getElem_cons_zero, List.getElem_cons_succ]
          try simp only [Act.put, List.setIfInBounds_toArray, List.set_cons_zero, List.set_cons_succ]
          refine wpAnyH_ready (rs := [7]) (by kernel_rfl) (by simp) ?_
          refine AllReadyH.cons rfl (fun K hK => ?_) AllReadyH.nil
          try simp only [List.getElem_toArray, List.getElem_cons_zero, List.getElem_cons_succ]
          go_simp
          refine hK.out _ _ ?_ (fun hHeld => ?_)
          · try dsimp only
            go_keep
          clear hK K
          try simp only [List.getElem_toArray, List.getElem_cons_zero, List.getElem_cons_succ]
          try simp only [Act.put, List.setIfInBounds_toArray, List.set_cons_zero, List.set_cons_succ]
          refine wpAnyH_ready (rs := [16]) (by kernel_rfl) (by simp) ?_
          refine AllReadyH.cons rfl (fun K hK => ?_) AllReadyH.nil
          refine step_append_lies _ (by rfl) _ _ _ (by rfl) (w.heap.size + 1) 96 i0 _ 4 32 Tryd.underlying118 hi0 hz0 hz1 hz2 rfl (by omega) (V' (tq r)) (G2.getD (tq r) []).length ((G2.getD (tq r) []).flatMap cellsSp) (by rfl) ((hown.alloc _).drew) ⟨wc.heap.size, 0, none⟩ 1 1 [.int .i64 (fr r), .int .i64 (-len r), .int .i64 r, .bool true] (by rfl) (by rfl) (World.news_of_block (cs := #[.int .i64 (fr r), .int .i64 (-len r), .int .i64 r, .bool true]) (t := 96) (fr := (0, 0)) (hsz1 _)) (by simp [Value.oneCell']) (by omega) (by unfold maxLen; omega) (by omega) (by simp; omega) (wc.heap.size + 1) (by simp) ?_
          intro gg cap w1 hown1 hgrow hat hlt
          have e1 : w1.cell? ⟨w.heap.size, tq r, none⟩ = some (V' (tq r)) := (hgrow.cell_far _ (by simp; omega) (Ne.symm a1)).trans ((hT'.top.alloc _).cell hQ)
          have e2 : w1.frozen? ⟨w.heap.size, tq r, none⟩ = false := (hgrow.frozen_far _ (by simp; omega) (Ne.symm a1)).trans ((hT'.top.alloc _).frozen _)
          refine hK.out _ _ ?_ (fun hHeld => ?_)
          · try dsimp only
            go_split_ands; refine ⟨?_, ?_, ?_⟩ <;> (rw [hgrow.cell_far _ (by simp; omega) (Ne.symm a0)]; assumption)
          clear hK K
          try simp only [List.getElem_toArray, List.getElem_cons_zero, List.getElem_cons_succ]
          try simp only [Act.put, List.setIfInBounds_toArray, List.set_cons_zero, List.set_cons_succ]
          refine wpAnyH_take (i := 17) (v := ?_) rfl (by kernel_rfl) (by kernel_rfl) (by kernel_rfl) (fun _ _ _ h => h) (Or.inl ⟨by rfl, ?_⟩) (by assumption) ?_
          rotate_left 1
          · (intro w hSw; (try dsimp only at hSw); (try simp only [List.getElem_toArray, List.getElem_cons_zero, List.getElem_cons_succ]); go_simp; try with_reducible rfl)
          try simp only [Act.put, List.setIfInBounds_toArray]
          refine wpAnyH_ready (rs := [18]) (by kernel_rfl) (by simp) ?_
          refine AllReadyH.cons rfl (fun K hK => ?_) AllReadyH.nil
          try simp only [List.getElem_toArray, List.getElem_cons_zero, List.getElem_cons_succ]
          go_simp
          refine hK.out _ _ ?_ (fun hHeld => ?_)
          · try dsimp only
            go_split_ands; refine ⟨?_, ?_, ?_⟩ <;> (rw [World.cell?_setCell_other _ _ _ _ (fun e => by have := congrArg Addr.block e; simp at this; omega)]; assumption)
          clear hK K
          try simp only [List.getElem_toArray, List.getElem_cons_zero, List.getElem_cons_succ]
          try simp only [Act.put, List.setIfInBounds_toArray, List.set_cons_zero, List.set_cons_succ]
          refine wpAnyH_done (by kernel_rfl) ?_ _
          refine NoPanic.normal ?_
          rotate_left 1
          all_goals go_wp2
          all_goals go_roundg (nb - (r + 1))
          all_goals first
            | (case measure => go_light; omega)
            | skip
          all_goals
            (go_light
             subst hG2
             have hlm : ∀ o, wc.Since wc.heap.size (wc.alloc o).drew := fun o => ((World.Since.refl _ _).alloc (Nat.le_refl _) _).drew
             obtain ⟨V2, hA, _⟩ := (hG'.keep (hlm _)).add (s := ⟨fr r, -len r, r, true⟩) hQ hown1 hgrow (by simpa using hat)
             have hGP : GP fr tq len ff N (r + 1) = addAt (addAt (GP fr tq len ff N r) (fr r) ⟨tq r, len r, r, false⟩) (tq r) ⟨fr r, -len r, r, true⟩ := by simp [GP, hff]
             refine ⟨r + 1, V2, by omega, rfl, by simp, by rw [hGP]; exact hA, fun v => ?_⟩
             rw [hGP]
             have h1 := len_addAt_le (s := ⟨fr r, -len r, r, true⟩) (by rw [hG'.len]; exact hQ) v (2 * r + 1) (by exact len_addAt_le (by rw [hG.len]; exact hF) v _ (hn2 v))
             omega)
        · have hd : decide (0 < ff r) = false := decide_eq_false hff
          go_wp2
          go_roundg (nb - (r + 1))
          case measure => go_light; omega
          case rel =>
            go_light
            have hff' : ¬ 0 < ff r := by omega
            have hGP : GP fr tq len ff N (r + 1) = addAt (GP fr tq len ff N r) (fr r) ⟨tq r, len r, r, false⟩ := by simp [GP, hff']
            refine ⟨r + 1, V', by omega, rfl, by simp, by rw [hGP]; exact hG', fun v => ?_⟩
            rw [hGP]
            have h1 := len_addAt_le (s := ⟨tq r, len r, r, false⟩) (by rw [hG.len]; exact hF) v _ (hn2 v)
            omega
    · have hrz : ¬ ((r : Int) < (nb : Int)) := by omega
      go_wp2
      go_ret
      obtain rfl : r = nb := by omega
      exact ⟨rfl, V, hG⟩
end Go.Proofs.YtinaaabmmjpijaaDoor.rv
namespace Go.Proofs.YtinaaabmmjpijaaDoor.rv
set_option maxRecDepth 10000
open Go.RV Go.RowKit Go.Proofs Sx
def encB (b : Bd) : List D := [.i b.fr, .i b.to, .i b.len, .i b.w]
def decB (r : List D) : Bd := ⟨(r.getD 0 default).int.toNat, (r.getD 1 default).int.toNat, (r.getD 2 default).int, (r.getD 3 default).int⟩
def encS (s : Sp) : List D := [.i s.to, .i s.len, .i s.bound, .b s.back]
theorem decB_enc (b : Bd) : decB (encB b) = b := by cases b; simp [decB, encB]
def prob (N : Nat) (B : List Bd) (f : List Int) : D := .p [.i N, .l (B.map encB), .l (f.map encI)]
def stepsD (ds : List D) : List D :=
 [.l ((stepsOf ((ds.getD 0 default).ptd.getD 0 default).int.toNat (((ds.getD 0 default).ptd.getD 1 default).lst.map decB) (((ds.getD 0 default).ptd.getD 2 default).lst.map decI)).map fun row => [.l (row.map encS)])]
theorem stepsD_eq (N : Nat) (B : List Bd) (f : List Int) : stepsD [prob N B f] = [.l ((stepsOf N B f).map fun row => [.l (row.map encS)])] := by
 simp only [stepsD, prob, gz0, gs0, D.ptd_p, D.int_i, tn0, D.lst_l, map_dec decB_enc, map_dec dec_encI]
def stepsPre (ds : List D) : Prop := ∃ N B f, ds = [prob N B f] ∧ Valid N B ∧ f.length = B.length
theorem stepsGo_append (f : List Int) : ∀ (B B' : List Bd) (i : Nat) (G : List (List Sp)), stepsGo f i (B ++ B') G = stepsGo f (i + B.length) B' (stepsGo f i B G)
 | [], B', i, G => rfl
 | b :: B, B', i, G => by
  rw [List.cons_append, stepsGo, stepsGo_append f B B', stepsGo, List.length_cons]
  congr 1
  omega
def b0 : Bd := ⟨0, 0, 0, 0⟩
theorem GP_eq {N : Nat} {B : List Bd} {f : List Int} : ∀ r, r ≤ B.length → GP (fun i => (B.getD i b0).fr) (fun i => (B.getD i b0).to) (fun i => (B.getD i b0).len) (fun i => f.getD i 0) N r = stepsGo f 0 (B.take r) (List.replicate N [])
 | 0, _ => rfl
 | r + 1, h => by
  have hr : r < B.length := by omega
  have e : B.take (r + 1) = B.take r ++ [B.getD r b0] := by
   rw [List.take_add_one, List.getD_eq_getElem?_getD, List.getElem?_eq_getElem hr]; rfl
  rw [e, stepsGo_append, ← GP_eq r (by omega)]
  simp only [GP, stepsGo, List.length_take, Nat.min_eq_left (Nat.le_of_lt hr), Nat.zero_add]
theorem cells_get : ∀ (row : List Sp) (i j : Nat), i < row.length → j < 4 → (row.flatMap cellsSp).getD (i * 4 + j) undef = (cellsSp (row.getD i sp0)).getD j undef
 | [], _, _, h, _ => by simp at h
 | s :: row, 0, j, _, hj => by
  simp only [List.flatMap_cons, Nat.zero_mul, Nat.zero_add, gz0]
  rw [List.getD_eq_getElem?_getD, List.getElem?_append_left (by simpa [cellsSp] using hj), ← List.getD_eq_getElem?_getD]
 | s :: row, i + 1, j, h, hj => by
  have := cells_get row i j (by simpa using h) hj
  rw [gs0, ← this, List.flatMap_cons, List.getD_eq_getElem?_getD, List.getElem?_append_right (by simp [cellsSp]; omega), ← List.getD_eq_getElem?_getD]
  congr 1
  simp [cellsSp]; omega
theorem row_rep {w : World} {F : Nat → Prop} {row : List Sp} (h : ∀ s ∈ row, s.to ≤ 4096 ∧ s.bound ≤ 4096 ∧ -16777216 ≤ s.len ∧ s.len ≤ 16777216) : RowRep w F [i6, i6, i6, .bool] (row.map encS) (row.flatMap cellsSp) := by
 intro i hi
 rw [lm0] at hi
 have e1 : (row.map encS).getD i [] = encS (row.getD i sp0) := by
  rw [List.getD_eq_getElem?_getD, List.getD_eq_getElem?_getD, List.getElem?_map, List.getElem?_eq_getElem hi]; rfl
 rw [e1]
 refine ⟨rfl, fun j ct hj => ?_⟩
 have hj4 : j < 4 := (List.getElem?_eq_some_iff.1 hj).1
 show Rep w F ct ((row.flatMap cellsSp).getD (i * 4 + j) undef) _
 rw [cells_get row i j hi hj4]
 have hs := h (row.getD i sp0) (by rw [List.getD_eq_getElem?_getD, List.getElem?_eq_getElem hi]; exact List.getElem_mem hi)
 generalize row.getD i sp0 = s at *
 have e2 : IntKind.i64.min = -9223372036854775808 := by decide
 have e3 : IntKind.i64.max = 9223372036854775807 := by decide
 match j, hj with
 | 0, hj => simp only [List.getElem?_cons_zero, si0] at hj; subst hj; exact Rep.int ⟨by rw [e2]; omega, by rw [e3]; omega⟩
 | 1, hj => simp only [List.getElem?_cons_succ, List.getElem?_cons_zero, si0] at hj; subst hj; exact Rep.int ⟨by rw [e2]; omega, by rw [e3]; omega⟩
 | 2, hj => simp only [List.getElem?_cons_succ, List.getElem?_cons_zero, si0] at hj; subst hj; exact Rep.int ⟨by rw [e2]; omega, by rw [e3]; omega⟩
 | 3, hj => simp only [List.getElem?_cons_succ, List.getElem?_cons_zero, si0] at hj; subst hj; exact Rep.bool
 | j + 4, hj => omega
theorem Tg.rep {w w' : World} {N : Nat} {G : List (List Sp)} {V : Nat → Value} {F : Nat → Prop} (h : Tg w w' N G V) (hN : N ≤ 2048) (hs : ∀ v s, s ∈ G.getD v [] → s.to ≤ 4096 ∧ s.bound ≤ 4096 ∧ -16777216 ≤ s.len ∧ s.len ≤ 16777216) :
  Rep w' (fun b => F b ∨ b = w.heap.size ∨ ∃ v, v < N ∧ (V v).ownBlock = some b) (.sl 118 [.sl 96 [i6, i6, i6, .bool]]) (.slice (some ⟨w.heap.size, 0, none⟩) N N) (.l (G.map fun row => [.l (row.map encS)])) := by
 obtain ⟨cur, hg, hsz, hc⟩ := h.tb.top
 have hl := h.len
 have e : ∀ i, i < N → (G.map fun row => [D.l (row.map encS)]).getD i [] = [.l ((G.getD i []).map encS)] := fun i hi => by
  rw [List.getD_eq_getElem?_getD, List.getElem?_map, List.getD_eq_getElem?_getD, List.getElem?_eq_getElem (by omega)]; rfl
 refine Rep.sl (.inr (.inl rfl)) hg (Nat.le_refl _) (by unfold maxLen; omega) (by simp [hsz]) (by simp [hl]) (fun i hi => by rw [e i hi]; rfl) fun i j ct hi hj => ?_
 rw [e i hi]
 match j, hj with
 | 0, hj =>
  simp only [List.getElem?_cons_zero, si0] at hj
  subst hj
  have hcv : cur.getD (0 + i * [CT.sl 96 [i6, i6, i6, .bool]].length + 0) undef = V i := by
   have := hc i hi
   simp only [List.length_singleton, Nat.mul_one, Nat.zero_add, Nat.add_zero, Array.getD_eq_getD_getElem?, this, Option.getD_some]
  rw [hcv, gz0]
  have ho := OwnR.of (h.tb.own i hi)
  have ho' : OwnR w' 96 [i6, i6, i6, CT.bool].length (V i) ((G.getD i []).map encS).length ((G.getD i []).flatMap cellsSp) := by rw [lm0]; exact ho
  exact own_rep (F := fun _ => False) ho' (row_rep (hs i)) (fun _ hb => hb.elim) fun b hb => .inr (.inr ⟨i, hi, ownB_own hb⟩)
 | j + 1, hj => simp at hj
theorem sl_form {w : World} {F : Nat → Prop} {e : TypeId} {cts : List CT} {v : Value} {xs : List (List D)} (h : Rep w F (.sl e cts) v (.l xs)) :
  ∃ q cap, v = .slice q xs.length cap ∧ ∃ g o, (0 < xs.length → q = some ⟨g, o, none⟩) ∧ ∀ i j ct, i < xs.length → cts[j]? = some ct → ∃ u, w.cell? ⟨g, o + i * cts.length + j, none⟩ = some u ∧ Rep w F ct u ((xs.getD i []).getD j default) := by
 cases h with
 | nil => exact ⟨_, _, rfl, 0, 0, fun h => by simp at h, fun i j ct hi => by simp at hi⟩
 | sl hF hg hl hm hc hn hx hr =>
  subst hn
  rename_i g o cap cur t fz
  refine ⟨_, _, rfl, g, o, fun _ => rfl, fun i j ct hi hj => ⟨_, ?_, hr i j ct hi hj⟩⟩
  have hjl : j < cts.length := (List.getElem?_eq_some_iff.1 hj).1
  have hb1 := mul_lt_bound (i := i) (len := cap) (j := j + 1) (m := cts.length) (by omega) (by omega)
  have hlt : o + i * cts.length + j < cur.size := by omega
  rw [cell_at hg, Array.getD_eq_getD_getElem?, Array.getElem?_eq_getElem hlt]
  rfl
theorem m74 : Meets Tryd.prog 74 S74 stepsPre stepsD := by
  refine MeetsFn.meets ⟨fun args w => ?_, fun w F vs ds hF hT hA hp => ?_⟩ (by decide)
  · have h1 : Tryd.f74.name ≠ "runtime.NumGoroutine" := by simpa using n74
    simp [callFunc, Tryd.func74, h1, b74]
  obtain ⟨N, B, f, rfl, hV, hfl⟩ := hp
  match vs, hA with
  | [v], hA =>
    obtain ⟨d1, d2, he, ⟨us, h1, h2⟩, h3⟩ := hA
    have h3 : d2 = [] := h3
    subst h3
    rw [List.append_nil] at he
    subst he
    have h1 : us = [v] := h1
    subst h1
    have hr := h2.1
    have hpt : Rep w F (.pt [i6, .sl 38 [i6, i6, i6, i6], .sl 3 [i6]]) v (prob N B f) := by
      unfold prob at hr ⊢
      cases hr with
      | pns h => exact h
    obtain ⟨g, o, cur, t', fz, rfl, hFg, hg, hc, hd, hn, hrr⟩ := rep_pt hpt
    simp only [prob, D.ptd_p] at hrr hn
    have hcell : ∀ j ct, [i6, CT.sl 38 [i6, i6, i6, i6], CT.sl 3 [i6]][j]? = some ct → w.cell? ⟨g, o + j, none⟩ = some (cur.getD (o + j) undef) := fun j ct hj => by
      have : j < 3 := (List.getElem?_eq_some_iff.1 hj).1
      have hc' : o + 3 ≤ cur.size := hc
      rw [cell_at hg, Array.getD_eq_getD_getElem?, Array.getElem?_eq_getElem (by omega)]
      rfl
    obtain ⟨e0, _⟩ := rep_int (hrr 0 i6 rfl)
    obtain ⟨q1, cap1, e1, g1, o1, hq1, hc1⟩ := sl_form (hrr 1 _ rfl)
    obtain ⟨q2, cap2, e2, g2, o2, hq2, hc2⟩ := sl_form (hrr 2 _ rfl)
    have p0 := hcell 0 _ rfl
    have p1 := hcell 1 _ rfl
    have p2 := hcell 2 _ rfl
    rw [e0] at p0
    rw [e1] at p1
    rw [e2] at p2
    simp only [lm0] at hq1 hq2 hc1 hc2 p1 p2
    have hB : ∀ i, i < B.length → B[i]? = some (B.getD i b0) := fun i hi => by rw [List.getD_eq_getElem?_getD, List.getElem?_eq_getElem hi]; rfl
    have hm : ∀ i, i < B.length → B.getD i b0 ∈ B := fun i hi => List.mem_of_getElem? (hB i hi)
    have d1 : ∀ i, i < B.length → (B.map encB).getD i [] = encB (B.getD i b0) := fun i hi => by rw [List.getD_eq_getElem?_getD, List.getElem?_map, hB i hi]; rfl
    have d2 : ∀ i, i < f.length → (f.map encI).getD i [] = [.i (f.getD i 0)] := fun i hi => by rw [List.getD_eq_getElem?_getD, List.getElem?_map, List.getD_eq_getElem?_getD, List.getElem?_eq_getElem hi]; rfl
    have cB : ∀ i j, i < B.length → j < 4 → w.cell? ⟨g1, o1 + i * 4 + j, none⟩ = some (.int .i64 ((encB (B.getD i b0)).getD j default).int) := fun i j hi hj => by
      obtain ⟨u, hu, hru⟩ := hc1 i j i6 hi (by match j, hj with | 0, _ => rfl | 1, _ => rfl | 2, _ => rfl | 3, _ => rfl)
      rw [d1 i hi] at hru
      obtain ⟨hv, _⟩ := rep_int hru
      rw [← hv]; exact hu
    have cf : ∀ i, i < f.length → w.cell? ⟨g2, o2 + i, none⟩ = some (.int .i64 (f.getD i 0)) := fun i hi => by
      obtain ⟨u, hu, hru⟩ := hc2 i 0 i6 hi rfl
      rw [d2 i hi] at hru
      obtain ⟨hv, _⟩ := rep_int hru
      simp only [List.length_singleton, Nat.mul_one, Nat.add_zero] at hu
      rw [hv] at hu; exact hu
    have hlen : ∀ i, i < B.length → -16777216 ≤ (B.getD i b0).len ∧ (B.getD i b0).len ≤ 16777216 := fun i hi => ⟨(hV.ok _ (hm i hi)).2.2.2.1, (hV.ok _ (hm i hi)).2.2.2.2.1⟩
    refine (stepsWalk w g o N B.length g1 o1 cap1 g2 o2 cap2 f.length q1 q2 (fun i => (B.getD i b0).fr) (fun i => (B.getD i b0).to) (fun i => (B.getD i b0).len) (fun i => (B.getD i b0).w) (fun i => f.getD i 0) p0 p1 p2 (fun h => ⟨hq1 h, hq2 (by omega)⟩) hV.hN (by omega) hV.hB
      (fun i hi => ⟨cB i 0 hi (by omega), cB i 1 hi (by omega), cB i 2 hi (by omega), cB i 3 hi (by omega)⟩) (fun i hi => cf i (by omega)) (fun i hi => (hV.ok _ (hm i hi)).1) (fun i hi => (hV.ok _ (hm i hi)).2.1) hlen).mono fun e w' ⟨V, he, hG⟩ => ?_
    rw [GP_eq B.length (Nat.le_refl _), List.take_length] at hG
    have hG : Tg w w' N (stepsOf N B f) V := hG
    have hsz := hG.tb.since.size
    refine ⟨_, fun b => F b ∨ b = w.heap.size ∨ ∃ v, v < N ∧ (V v).ownBlock = some b, [], he, ?_, ⟨fun u hu => by simp at hu, List.Pairwise.nil⟩, fun b hb => .inl hb, fun b hb => ?_, ⟨hG.tb.since.os, hG.tb.since.tape, hG.tb.since.output, hsz, hG.tb.since.block⟩⟩
    · rw [stepsD_eq]
      refine ⟨[_], rfl, ?_, trivial⟩
      refine hG.rep hV.hN fun v s hs => ?_
      obtain ⟨i, b, hb, hcase⟩ := (mem_steps hV v s).1 hs
      have hi : i < B.length := (List.getElem?_eq_some_iff.1 hb).1
      obtain ⟨v1, v2, _, v4, v5, _⟩ := hV.ok b (List.mem_of_getElem? hb)
      have := hV.hN
      have := hV.hB
      rcases hcase with ⟨_, rfl⟩ | ⟨_, _, rfl⟩
      · exact ⟨by simp only; omega, by simp only; omega, by simp only; omega, by simp only; omega⟩
      · exact ⟨by simp only; omega, by simp only; omega, by simp only; omega, by simp only; omega⟩
    · rcases hb with hb | rfl | ⟨v, hv, hb⟩
      · exact ⟨.inl hb, Nat.lt_of_lt_of_le (hF b hb) hsz⟩
      · exact ⟨.inr (Nat.le_refl _), hG.tb.sz⟩
      · have := (hG.tb.own v hv).lt b hb
        exact ⟨.inr (by omega), this.2⟩
end Go.Proofs.YtinaaabmmjpijaaDoor.rv
namespace Go.Proofs.YtinaaabmmjpijaaDoor.rv
set_option maxRecDepth 10000
open Go.RV Sx
def encW (w : Wy) : List D := [.i w.long, .i w.fr, .i w.last.to, .i w.last.len, .i w.last.bound, .b w.last.back, .b w.beg]
def decW (r : List D) : Wy := ⟨(r.getD 0 default).int, (r.getD 1 default).int.toNat, ⟨(r.getD 2 default).int.toNat, (r.getD 3 default).int, (r.getD 4 default).int.toNat, (r.getD 5 default).bool⟩, (r.getD 6 default).bool⟩
theorem decW_enc (w : Wy) : decW (encW w) = w := by obtain ⟨a, b, ⟨c, d, e, f⟩, g⟩ := w; simp [decW, encW]
def decS (r : List D) : Sp := ⟨(r.getD 0 default).int.toNat, (r.getD 1 default).int, (r.getD 2 default).int.toNat, (r.getD 3 default).bool⟩
theorem decS_enc (s : Sp) : decS (encS s) = s := by cases s; simp [decS, encS]
def encN (n : Nat) : List D := [.i n]
def decN (r : List D) : Nat := (r.getD 0 default).int.toNat
theorem decN_enc (n : Nat) : decN (encN n) = n := by simp [decN, encN]
def encT (b : Bool) : List D := [.b b]
def decT (r : List D) : Bool := (r.getD 0 default).bool
theorem decT_enc (b : Bool) : decT (encT b) = b := rfl
def encR (row : List Sp) : List D := [.l (row.map encS)]
def decR (r : List D) : List Sp := (r.getD 0 default).lst.map decS
theorem decR_enc (row : List Sp) : decR (encR row) = row := by simp only [decR, encR, gz0, D.lst_l, map_dec decS_enc]
def needL : List Bd → List Int → List Int
 | [], l => l
 | b :: bs, l => needL bs ((l.set b.to (l.getD b.to 0 + b.w)).set b.fr ((l.set b.to (l.getD b.to 0 + b.w)).getD b.fr 0 - b.w))
def lpNd (ρ : List D) : List D := [.i 0, .i ((ρ.getD 0 default).lst.length : Int), .l ((needL (((ρ.getD 0 default).lst.map decB).drop (ρ.getD 2 default).int.toNat) ((ρ.getD 3 default).lst.map decI)).map encI)]
def prNd (ρ : List D) : Prop := ∃ (N : Nat) (B : List Bd) (i : Nat) (l : List Int), ρ = [.l (B.map encB), .i (B.length : Int), .i (i : Int), .l (l.map encI)] ∧ i ≤ B.length ∧ Valid N B ∧ l.length = N ∧ ∀ v, -(8000 * (i : Int)) ≤ l.getD v 0 ∧ l.getD v 0 ≤ 8000 * (i : Int)
def needD (ds : List D) : List D := [.l ((needL (((ds.getD 0 default).ptd.getD 1 default).lst.map decB) (List.replicate ((ds.getD 0 default).ptd.getD 0 default).int.toNat 0)).map encI)]
def allD (ds : List D) : List D := [.l ((List.range ((ds.getD 0 default).ptd.getD 0 default).int.toNat).map encN)]
def lpAl (ρ : List D) : List D := [.i 0, ρ.getD 0 default, .l ((foldN (fun i (l : List Nat) => l.set i i) (ρ.getD 0 default).int.toNat (ρ.getD 1 default).int.toNat ((ρ.getD 2 default).lst.map decN)).map encN)]
def prAl (ρ : List D) : Prop := ∃ (N i : Nat) (l : List Nat), ρ = [.i (N : Int), .i (i : Int), .l (l.map encN)] ∧ i ≤ N ∧ N ≤ 2048 ∧ l.length = N
theorem fill_range : ∀ (n i : Nat) (l : List Nat), i ≤ n → l.length = n → (∀ k, k < i → l[k]? = some k) → foldN (fun i (l : List Nat) => l.set i i) n i l = List.range n := by
 intro n i
 induction h : n - i generalizing i with
 | zero =>
  intro l hi hl hk
  have : i = n := by omega
  subst this
  rw [fold_end]
  refine List.ext_getElem? fun k => ?_
  by_cases hk' : k < i
  ·rw [hk k hk', List.getElem?_range hk']
  ·rw [List.getElem?_eq_none (by omega), List.getElem?_eq_none (by simp; omega)]
 | succ m ih =>
  intro l hi hl hk
  rw [fold_next (by omega)]
  refine ih (i + 1) (by omega) _ (by omega) (by rw [List.length_set]; exact hl) fun k hk' => ?_
  rw [List.getElem?_set]
  by_cases e : i = k
  ·subst e; simp; omega
  ·rw [if_neg e]; exact hk k (by omega)
def wyZ : Wy := ⟨0, 0, sp0, false⟩
def noneAt (i : Nat) (W : List Wy) : List Wy := W.set i { W.getD i wyN with long := noW }
def lpNo (ρ : List D) : List D := [.i 0, ρ.getD 0 default, .l ((foldN noneAt (ρ.getD 0 default).int.toNat (ρ.getD 1 default).int.toNat ((ρ.getD 2 default).lst.map decW)).map encW)]
def prNo (ρ : List D) : Prop := ∃ (N i : Nat) (W : List Wy), ρ = [.i (N : Int), .i (i : Int), .l (W.map encW)] ∧ i ≤ N ∧ N ≤ 2048 ∧ W.length = N
def beginAt (W : List Wy) (v : Nat) : List Wy := W.set v wyB
def lpBe (ρ : List D) : List D := [.i 0, ρ.getD 1 default, .l (((((ρ.getD 0 default).lst.map decN).drop (ρ.getD 2 default).int.toNat).foldl beginAt ((ρ.getD 3 default).lst.map decW)).map encW)]
def prBe (ρ : List D) : Prop := ∃ (N i : Nat) (S : List Nat) (W : List Wy), ρ = [.l (S.map encN), .i (S.length : Int), .i (i : Int), .l (W.map encW)] ∧ i ≤ S.length ∧ S.length ≤ 1000000000 ∧ N ≤ 2048 ∧ W.length = N ∧ ∀ v ∈ S, v < N
def outZ (z : Z) : List D := [.l (z.W.map encW), .l (z.wt.map encT), .l (z.nx.map encN)]
def inZ (ρ : List D) (k : Nat) : Z := ⟨(ρ.getD k default).lst.map decW, (ρ.getD (k + 1) default).lst.map decT, (ρ.getD (k + 2) default).lst.map decN⟩
def lpRx (ρ : List D) : List D := .i 0 :: ρ.getD 2 default :: outZ ((((ρ.getD 1 default).lst.map decS).drop (ρ.getD 3 default).int.toNat).foldl (relax1 (ρ.getD 0 default).int.toNat) (inZ ρ 4))
def cntT (wt : List Bool) : Nat := wt.countP id
def prRx (ρ : List D) : Prop := ∃ (N v i M : Nat) (st : List Sp) (z : Z), ρ = .i (v : Int) :: .l (st.map encS) :: .i (st.length : Int) :: .i (i : Int) :: outZ z ∧ i ≤ st.length ∧ st.length ≤ 1000000000 ∧ N ≤ 2048 ∧ v < N ∧ z.W.length = N ∧ z.wt.length = N ∧
 (∀ s ∈ st, s.to < N ∧ s.to ≠ v ∧ s.bound ≤ 4096 ∧ -16777216 ≤ s.len ∧ s.len ≤ 16777216) ∧ -68719476736 ≤ (Wg z.W v).long ∧ (Wg z.W v).long ≤ 68719476736 ∧ z.nx.length ≤ cntT z.wt + M ∧ M ≤ 1000000000000
def lpVx (ρ : List D) : List D := .i 0 :: ρ.getD 2 default :: outZ ((((ρ.getD 1 default).lst.map decN).drop (ρ.getD 3 default).int.toNat).foldl (relaxV ((ρ.getD 0 default).lst.map decR)) (inZ ρ 4))
structure NetD (N : Nat) (G : List (List Sp)) (pot : Nat → Int) : Prop where
 net : Net N G pot
 len : G.length = N
 few : ∀ v, (G.getD v []).length ≤ 10000
 bnd : ∀ v s, s ∈ G.getD v [] → s.bound ≤ 4096
def prVx (ρ : List D) : Prop := ∃ (N : Nat) (G : List (List Sp)) (pot : Nat → Int) (S q : List Nat) (k i : Nat) (z : Z) (T : Nat) (t ka : Nat → Nat), ρ = .l (G.map encR) :: .l (q.map encN) :: .i (q.length : Int) :: .i (i : Int) :: outZ z ∧
 i ≤ q.length ∧ q.length ≤ 1000000000 ∧ NetD N G pot ∧ RI N G pot S k (q.drop i) z T t ka ∧ z.nx.length ≤ cntT z.wt + i
def lpLo (ρ : List D) : List D :=
 let z := loopQ ((ρ.getD 3 default).lst.map decR) (((ρ.getD 0 default).ptd.getD 0 default).int.toNat + 2 - (ρ.getD 5 default).int.toNat) ((ρ.getD 6 default).lst.map decW) ((ρ.getD 7 default).lst.map decT) ((ρ.getD 4 default).lst.map decN) (ρ.getD 5 default).int.toNat
 [.i 1, ρ.getD 1 default, ρ.getD 2 default, .l (z.2.2.1.map encN), .i z.2.2.2, .l (z.1.map encW), .l (z.2.1.map encT)]
def prLo (ρ : List D) : Prop := ∃ (N : Nat) (B : List Bd) (f : List Int) (r1 r2 : D) (G : List (List Sp)) (pot : Nat → Int) (S q : List Nat) (r : Nat) (W : List Wy) (wt : List Bool) (T : Nat) (t ka : Nat → Nat),
 ρ = [prob N B f, r1, r2, .l (G.map encR), .l (q.map encN), .i (r : Int), .l (W.map encW), .l (wt.map encT)] ∧ NetD N G pot ∧ RI N G pot S (r + 1) q ⟨W, wt, []⟩ T t ka ∧ r ≤ N + 1 ∧ q.length ≤ 2048 * (r + 1)
def longQ (N : Nat) (B : List Bd) (f : List Int) (S : List Nat) : List Wy × List Bool × List Nat × Nat := loopQ (stepsOf N B f) (N + 2) (S.foldl beginAt (List.replicate N wyN)) (List.replicate N false) S 0
def longW (N : Nat) (B : List Bd) (f : List Int) (S : List Nat) : List Wy := (longQ N B f S).1
def longD (ds : List D) : List D :=
 [.l ((longW ((ds.getD 0 default).ptd.getD 0 default).int.toNat (((ds.getD 0 default).ptd.getD 1 default).lst.map decB) (((ds.getD 0 default).ptd.getD 2 default).lst.map decI) ((ds.getD 1 default).lst.map decN)).map encW), .b true]
def longPre (ds : List D) : Prop := ∃ (N : Nat) (B : List Bd) (f : List Int) (S : List Nat) (pot : Nat → Int), ds = [prob N B f, .l (S.map encN)] ∧ Valid N B ∧ f.length = B.length ∧ Pot B f pot ∧ S.length ≤ N ∧ ∀ v ∈ S, v < N
def chainL (W : List Wy) : Nat → Nat → Nat
 | 0, _ => 0
 | k + 1, v => if (Wg W v).beg then 0 else chainL W k (Wg W v).fr + 1
structure Back (N : Nat) (B : List Bd) (f : List Int) (S : List Nat) (W : List Wy) (r : Nat → Nat) (v : Nat) : Prop where
 val : Valid N B
 fl : f.length = B.length
 fin : Fin N (stepsOf N B f) S W
 rk : ∀ v, reached W v → r v < N
 dn : ∀ v, reached W v → (Wg W v).beg = false → r (Wg W v).fr < r v
 at_ : reached W v
def lpS0 (ρ : List D) : List D :=
 let W := (ρ.getD 6 default).lst.map decW
 let z := walkMin W ((ρ.getD 3 default).lst.map decI) W.length (ρ.getD 2 default).int.toNat (ρ.getD 1 default).int (ρ.getD 0 default).int.toNat
 [.i 0, .i z.2, .i z.1, .i (endV W W.length (ρ.getD 2 default).int.toNat)]
def prS0 (ρ : List D) : Prop := ∃ (N : Nat) (B : List Bd) (f : List Int) (S : List Nat) (W : List Wy) (r : Nat → Nat) (a v : Nat) (m : Int) (x y : D), ρ = [.i (a : Int), .i m, .i (v : Int), .l (f.map encI), x, y, .l (W.map encW)] ∧ Back N B f S W r v
def lpS1 (ρ : List D) : List D :=
 let W := (ρ.getD 5 default).lst.map decW
 [.i 0, .i (endV W W.length (ρ.getD 1 default).int.toNat), .l ((walkAdd W (ρ.getD 0 default).int W.length (ρ.getD 1 default).int.toNat ((ρ.getD 2 default).lst.map decI)).map encI)]
def prS1 (ρ : List D) : Prop := ∃ (N : Nat) (B : List Bd) (f g : List Int) (S : List Nat) (W : List Wy) (r : Nat → Nat) (v : Nat) (z : Int) (x y : D), ρ = [.i z, .i (v : Int), .l (g.map encI), x, y, .l (W.map encW)] ∧ Back N B f S W r v ∧ g.length = f.length ∧
 0 ≤ z ∧ z ≤ 1000000000000 ∧ ∀ i, -(10000000000000000 - 1000000000000 * (r v : Int)) ≤ g.getD i 0 ∧ g.getD i 0 ≤ 10000000000000000 - 1000000000000 * (r v : Int)
def sdD (ρ : List D) : List D :=
 let W := (ρ.getD 4 default).lst.map decW
 let f := (ρ.getD 0 default).lst.map decI
 let needs := (ρ.getD 3 default).lst.map decI
 let b := (ρ.getD 5 default).int.toNat
 [.i 0, .l ((sendF W f needs b).map encI), .i (sendA W f needs b), .i (sendZ W f needs b)]
def sdPre (ρ : List D) : Prop := ∃ (N : Nat) (B : List Bd) (f needs : List Int) (S : List Nat) (W : List Wy) (b : Nat), ρ = [.l (f.map encI), .i (N : Int), .l (B.map encB), .l (needs.map encI), .l (W.map encW), .i (b : Int)] ∧ Valid N B ∧ f.length = B.length ∧ Fin N (stepsOf N B f) S W ∧
 needs.length = N ∧ (∀ v ∈ S, needs.getD v 0 < 0) ∧ reached W b ∧ 0 < needs.getD b 0 ∧ (∀ v, -1000000000000 ≤ needs.getD v 0 ∧ needs.getD v 0 ≤ 1000000000000) ∧ ∀ i, 0 ≤ f.getD i 0 ∧ f.getD i 0 ≤ 1000000000000
def negAt (needs : List Int) (i : Nat) : List Nat := if needs.getD i 0 < 0 then [i] else []
def lpCs (ρ : List D) : List D := [.i 0, ρ.getD 0 default, .l (((ρ.getD 3 default).lst.map decN ++ collN (negAt ((ρ.getD 2 default).lst.map decI)) (ρ.getD 0 default).int.toNat (ρ.getD 1 default).int.toNat).map encN)]
def prCs (ρ : List D) : Prop := ∃ (N i : Nat) (needs : List Int) (S : List Nat), ρ = [.i (N : Int), .i (i : Int), .l (needs.map encI), .l (S.map encN)] ∧ i ≤ N ∧ N ≤ 2048 ∧ needs.length = N ∧ S.length ≤ i
def bestAt (needs : List Int) (W : List Wy) (i : Nat) (b : Int) : Int := if 0 < needs.getD i 0 ∧ -576460752303423488 < (Wg W i).long ∧ (b < 0 ∨ (Wg W b.toNat).long < (Wg W i).long) then (i : Int) else b
def lpCb (ρ : List D) : List D := [.i 0, .i (foldN (bestAt ((ρ.getD 3 default).lst.map decI) ((ρ.getD 4 default).lst.map decW)) (ρ.getD 1 default).int.toNat (ρ.getD 2 default).int.toNat (ρ.getD 0 default).int), ρ.getD 1 default]
def prCb (ρ : List D) : Prop := ∃ (N i : Nat) (b : Int) (needs : List Int) (W : List Wy), ρ = [.i b, .i (N : Int), .i (i : Int), .l (needs.map encI), .l (W.map encW)] ∧ i ≤ N ∧ N ≤ 2048 ∧ needs.length = N ∧ W.length = N ∧ -1 ≤ b ∧ b < N
def negs (N : Nat) (needs : List Int) : List Nat := collN (negAt needs) N 0
def bestV (N : Nat) (needs : List Int) (W : List Wy) : Nat := (foldN (bestAt needs W) N 0 (-1)).toNat
def certT (N : Nat) (B : List Bd) (z : List Int × List Int) : List Int × List Int :=
 let W := longW N B z.1 (negs N z.2)
 let b := bestV N z.2 W
 (sendF W z.1 z.2 b, raise z.2 (sendA W z.1 z.2 b) b (sendZ W z.1 z.2 b))
def certQ (N : Nat) (B : List Bd) : Nat → List Int × List Int → List Int × List Int
 | 0, z => z
 | k + 1, z => if (negs N z.2).isEmpty then z else certQ N B k (certT N B z)
def posS (N : Nat) (needs : List Int) : Int := sumN N fun v => max (needs.getD v 0) 0
def lpCt (ρ : List D) : List D :=
 let N := (ρ.getD 1 default).int.toNat
 let f := (ρ.getD 0 default).lst.map decI
 let needs := (ρ.getD 3 default).lst.map decI
 let z := certQ N ((ρ.getD 2 default).lst.map decB) ((posS N needs).toNat + 1) (f, needs)
 [.i 0, .l (z.1.map encI), .l (z.2.map encI)]
def prCt (ρ : List D) : Prop := ∃ (N : Nat) (B : List Bd) (f needs : List Int) (P0 : Int), ρ = [.l (f.map encI), .i (N : Int), .l (B.map encB), .l (needs.map encI)] ∧ Valid N B ∧ CI N B P0 f needs ∧ P0 ≤ 1000000000000 ∧ ∀ v, -1000000000000 ≤ needs.getD v 0 ∧ needs.getD v 0 ≤ 1000000000000
def cert (N : Nat) (B : List Bd) : List Int × List Int := certQ N B ((posS N (needL B (List.replicate N 0))).toNat + 1) (List.replicate B.length 0, needL B (List.replicate N 0))
def cfD (ρ : List D) : List D := [.i 0, .l ((cert (ρ.getD 1 default).int.toNat ((ρ.getD 2 default).lst.map decB)).1.map encI)]
def cfPre (ρ : List D) : Prop := ∃ (N : Nat) (B : List Bd) (p : Nat → Int), ρ = [.l ((List.replicate B.length (0 : Int)).map encI), .i (N : Int), .l (B.map encB)] ∧ Valid N B ∧ Pot B (List.replicate B.length 0) p
def lpVd (ρ : List D) : List D := [.i 1, ρ.getD 0 default, ρ.getD 2 default]
def prVd (ρ : List D) : Prop := ∃ (N : Nat) (B : List Bd) (i : Nat) (x : D), ρ = [x, .l (B.map encB), .i (B.length : Int), .i (i : Int), .i (N : Int), .l (B.map encB)] ∧ i ≤ B.length ∧ Valid N B
def vdPre (ds : List D) : Prop := ∃ (N : Nat) (B : List Bd), ds = [.i (N : Int), .l (B.map encB)] ∧ Valid N B
def vdD (_ : List D) : List D := [.b true]
def longAt (W : List Wy) (i : Nat) (r : List Int) : List Int := r.set i (Wg W i).long
def lpSo (ρ : List D) : List D := [.i 0, ρ.getD 0 default, .l ((foldN (longAt ((ρ.getD 2 default).lst.map decW)) (ρ.getD 0 default).int.toNat (ρ.getD 1 default).int.toNat ((ρ.getD 3 default).lst.map decI)).map encI)]
def prSo (ρ : List D) : Prop := ∃ (N i : Nat) (W : List Wy) (r : List Int), ρ = [.i (N : Int), .i (i : Int), .l (W.map encW), .l (r.map encI)] ∧ i ≤ N ∧ N ≤ 2048 ∧ W.length = N ∧ r.length = N
def solveR (N : Nat) (B : List Bd) : List Int := rowF (fun v => (Wg (longW N B (cert N B).1 (List.range N)) v).long) N
def svD (ds : List D) : List D := [.l ((solveR (ds.getD 0 default).int.toNat ((ds.getD 1 default).lst.map decB)).map encI), .l ((cert (ds.getD 0 default).int.toNat ((ds.getD 1 default).lst.map decB)).1.map encI), .i 0]
def svPre (ds : List D) : Prop := ∃ (N : Nat) (B : List Bd) (p : Nat → Int), ds = [.i (N : Int), .l (B.map encB)] ∧ Valid N B ∧ Pot B (List.replicate B.length 0) p
def lpRk (ρ : List D) : List D := [.i 1, ρ.getD 0 default, ρ.getD 2 default]
def okR (r : List Int) : Prop := ∀ v, -34359738368 ≤ r.getD v 0 ∧ r.getD v 0 ≤ 34359738368
def prRk (ρ : List D) : Prop := ∃ (r : List Int) (i : Nat) (x : D), ρ = [x, .l (r.map encI), .i (r.length : Int), .i (i : Int)] ∧ i ≤ r.length ∧ r.length ≤ 2048 ∧ okR r
def rkPre (ds : List D) : Prop := ∃ (N : Nat) (B : List Bd) (r : List Int), ds = [.i (N : Int), .l (B.map encB), .l (r.map encI)] ∧ Valid N B ∧ r.length = N ∧ okR r
def lpCo (ρ : List D) : List D := [.i 0, .i ((ρ.getD 1 default).int + costF (((ρ.getD 2 default).lst.map decB).drop (ρ.getD 4 default).int.toNat) fun v => ((ρ.getD 0 default).lst.map decI).getD v 0), ρ.getD 3 default]
def prCo (ρ : List D) : Prop := ∃ (N : Nat) (B : List Bd) (r : List Int) (s : Int) (i : Nat), ρ = [.l (r.map encI), .i s, .l (B.map encB), .i (B.length : Int), .i (i : Int)] ∧ i ≤ B.length ∧ Valid N B ∧ r.length = N ∧ okR r ∧ -(600000000000000 * (i : Int)) ≤ s ∧ s ≤ 600000000000000 * (i : Int)
def costD (ds : List D) : List D := [.i (costF ((ds.getD 1 default).lst.map decB) fun v => ((ds.getD 2 default).lst.map decI).getD v 0)]
end Go.Proofs.YtinaaabmmjpijaaDoor.rv
namespace Go.Proofs.YtinaaabmmjpijaaDoor.rv
set_option maxRecDepth 10000
open Go.RV Lo
def encA (a : Nat × Nat) : List D := [.i a.1, .i a.2]
def decA (r : List D) : Nat × Nat := ((r.getD 0 default).int.toNat, (r.getD 1 default).int.toNat)
theorem decA_enc (a : Nat × Nat) : decA (encA a) = a := by simp [decA, encA]
theorem rowA {l : List (Nat × Nat)} {i : Nat} (h : i < l.length) : (l.map encA).getD i [] = encA (arc l i) := row_get (0, 0) h
def exD (N : Nat) (cs : List Int) (F : List Nat) : D := .p (.i (N : Int) :: (cs.map D.i ++ [.l (F.map encN)]))
def cellAt (cs : List Int) (v u : Nat) : Int := cs.getD (v * 8 + u) 0
def exN (d : D) : Nat := (d.ptd.getD 0 default).int.toNat
def exC (d : D) : Nat → Nat → Int := cellAt (((d.ptd.drop 1).take 64).map D.int)
def exF (d : D) (v : Nat) : Nat := ((d.ptd.getD 65 default).lst.map decN).getD v 0
structure Exk (N : Nat) (cs : List Int) (F : List Nat) : Prop where
 n8 : N ≤ 8
 c64 : cs.length = 64
 pos : ∀ k, 0 ≤ cs.getD k 0 ∧ cs.getD k 0 ≤ 1048576
 fN : F.length = N
 f8 : ∀ v, F.getD v 0 < 256
def lpB2 (ρ : List D) : List D := [.i 0, .i ((ρ.getD 2 default).int + sumB (exC (ρ.getD 0 default)) (ρ.getD 1 default).int.toNat (ρ.getD 3 default).int.toNat), .i 0]
def prB2 (ρ : List D) : Prop := ∃ (N : Nat) (cs : List Int) (F : List Nat) (v left : Nat) (c : Int), ρ = [exD N cs F, .i (v : Int), .i c, .i (left : Int)] ∧ Exk N cs F ∧ v < 8 ∧ left < 256 ∧ 0 ≤ c ∧ c + 1048576 * (left : Int) ≤ 1099511627776
def okT (N : Nat) (T : List Int) : Prop := T.length = 2 ^ N ∧ ∀ k, 0 ≤ T.getD k 0 ∧ T.getD k 0 ≤ 1048576
def lpB1 (ρ : List D) : List D := [.i 0, ρ.getD 2 default, .l ((foldN (dpV (exC (ρ.getD 0 default)) (exF (ρ.getD 0 default)) (ρ.getD 1 default).int.toNat) (ρ.getD 2 default).int.toNat (ρ.getD 3 default).int.toNat ((ρ.getD 4 default).lst.map decI)).map encI)]
def prB1 (ρ : List D) : Prop := ∃ (N : Nat) (cs : List Int) (F : List Nat) (s v : Nat) (T : List Int), ρ = [exD N cs F, .i (s : Int), .i (N : Int), .i (v : Int), .l (T.map encI)] ∧ Exk N cs F ∧ s < 2 ^ N ∧ v ≤ N ∧ okT N T
def lpB0 (ρ : List D) : List D := [.i 0, .i ((2 ^ exN (ρ.getD 0 default) : Nat) : Int), .l ((foldN (dpS (exN (ρ.getD 0 default)) (exC (ρ.getD 0 default)) (exF (ρ.getD 0 default))) (2 ^ exN (ρ.getD 0 default)) (ρ.getD 1 default).int.toNat ((ρ.getD 2 default).lst.map decI)).map encI)]
def prB0 (ρ : List D) : Prop := ∃ (N : Nat) (cs : List Int) (F : List Nat) (s : Nat) (T : List Int), ρ = [exD N cs F, .i (s : Int), .l (T.map encI)] ∧ Exk N cs F ∧ 1 ≤ s ∧ s ≤ 2 ^ N ∧ okT N T
def lsD (ds : List D) : List D := [.i (leastV (exN (ds.getD 0 default)) (exC (ds.getD 0 default)) (exF (ds.getD 0 default)))]
def lsPre (ds : List D) : Prop := ∃ (N : Nat) (cs : List Int) (F : List Nat), ds = [exD N cs F] ∧ Exk N cs F
def noPre (_ : List D) : Prop := False
theorem cells64 {cs : List Int} (N : Nat) (F : List Nat) (h : cs.length = 64) : [(exD N cs F).ptd.getD 1 default, (exD N cs F).ptd.getD 2 default, (exD N cs F).ptd.getD 3 default, (exD N cs F).ptd.getD 4 default, (exD N cs F).ptd.getD 5 default, (exD N cs F).ptd.getD 6 default, (exD N cs F).ptd.getD 7 default, (exD N cs F).ptd.getD 8 default, (exD N cs F).ptd.getD 9 default, (exD N cs F).ptd.getD 10 default, (exD N cs F).ptd.getD 11 default, (exD N cs F).ptd.getD 12 default, (exD N cs F).ptd.getD 13 default, (exD N cs F).ptd.getD 14 default, (exD N cs F).ptd.getD 15 default, (exD N cs F).ptd.getD 16 default, (exD N cs F).ptd.getD 17 default, (exD N cs F).ptd.getD 18 default, (exD N cs F).ptd.getD 19 default, (exD N cs F).ptd.getD 20 default, (exD N cs F).ptd.getD 21 default, (exD N cs F).ptd.getD 22 default, (exD N cs F).ptd.getD 23 default, (exD N cs F).ptd.getD 24 default, (exD N cs F).ptd.getD 25 default, (exD N cs F).ptd.getD 26 default, (exD N cs F).ptd.getD 27 default, (exD N cs F).ptd.getD 28 default, (exD N cs F).ptd.getD 29 default, (exD N cs F).ptd.getD 30 default, (exD N cs F).ptd.getD 31 default, (exD N cs F).ptd.getD 32 default, (exD N cs F).ptd.getD 33 default, (exD N cs F).ptd.getD 34 default, (exD N cs F).ptd.getD 35 default, (exD N cs F).ptd.getD 36 default, (exD N cs F).ptd.getD 37 default, (exD N cs F).ptd.getD 38 default, (exD N cs F).ptd.getD 39 default, (exD N cs F).ptd.getD 40 default, (exD N cs F).ptd.getD 41 default, (exD N cs F).ptd.getD 42 default, (exD N cs F).ptd.getD 43 default, (exD N cs F).ptd.getD 44 default, (exD N cs F).ptd.getD 45 default, (exD N cs F).ptd.getD 46 default, (exD N cs F).ptd.getD 47 default, (exD N cs F).ptd.getD 48 default, (exD N cs F).ptd.getD 49 default, (exD N cs F).ptd.getD 50 default, (exD N cs F).ptd.getD 51 default, (exD N cs F).ptd.getD 52 default, (exD N cs F).ptd.getD 53 default, (exD N cs F).ptd.getD 54 default, (exD N cs F).ptd.getD 55 default, (exD N cs F).ptd.getD 56 default, (exD N cs F).ptd.getD 57 default, (exD N cs F).ptd.getD 58 default, (exD N cs F).ptd.getD 59 default, (exD N cs F).ptd.getD 60 default, (exD N cs F).ptd.getD 61 default, (exD N cs F).ptd.getD 62 default, (exD N cs F).ptd.getD 63 default, (exD N cs F).ptd.getD 64 default] = cs.map D.i := by
 show (List.range 64).map (fun k => (exD N cs F).ptd.getD (k + 1) default) = cs.map D.i
 refine List.ext_getElem (by simp [h]) fun i h1 h2 => ?_
 have hi : i < 64 := by simpa using h1
 simp only [List.getElem_map, List.getElem_range, exD, D.ptd_p, gs0]
 rw [List.getD_eq_getElem?_getD, List.getElem?_append_left (by simp; omega)]
 simp [h, hi]
theorem cell_get {cs : List Int} {k : Nat} (h : k < cs.length) : ((cs.map D.i).getD k default).int = cs.getD k 0 := by
 simp [List.getD, h]
theorem exN_ex (N : Nat) (cs : List Int) (F : List Nat) : exN (exD N cs F) = N := by simp [exN, exD]
theorem exC_ex {cs : List Int} (N : Nat) (F : List Nat) (h : cs.length = 64) : exC (exD N cs F) = cellAt cs := by
 have : (((exD N cs F).ptd.drop 1).take 64).map D.int = cs := by
  simp only [exD, D.ptd_p, List.drop_succ_cons, List.drop_zero]
  rw [List.take_left' (by simpa using h), List.map_map]
  have : D.int ∘ D.i = id := rfl
  rw [this, List.map_id]
 rw [exC, this]
theorem exF_ex {cs : List Int} (N : Nat) (F : List Nat) (h : cs.length = 64) : exF (exD N cs F) = fun v => F.getD v 0 := by
 have : (exD N cs F).ptd.getD 65 default = .l (F.map encN) := by
  simp only [exD, D.ptd_p, gs0]
  rw [List.getD_eq_getElem?_getD, List.getElem?_append_right (by simp [h])]
  simp [h]
 funext v
 rw [exF, this, D.lst_l, map_dec decN_enc]
def cellsA (A : List (Nat × Nat)) : List Int := (List.range 64).map fun k => cntA A (k / 8) (k % 8)
def lpCn (ρ : List D) : List D := .i 0 :: ρ.getD 1 default :: (cellsA ((ρ.getD 0 default).lst.map decA)).map D.i
def prCn (ρ : List D) : Prop := ∃ (N : Nat) (A : List (Nat × Nat)) (i : Nat) (x y : D), ρ = .l (A.map encA) :: .i (A.length : Int) :: .i (i : Int) :: x :: y :: (cellsA (A.take i)).map D.i ∧ i ≤ A.length ∧ N ≤ 8 ∧ Okk N A ∧ A.length ≤ 100000
def lpGr (ρ : List D) : List D :=
 let N := (ρ.getD 5 default).int.toNat
 let A := (ρ.getD 1 default).lst.map decA
 let z := foldN (turnD N A (ρ.getD 0 default).int) A.length (ρ.getD 3 default).int.toNat ((ρ.getD 4 default).lst.map decN, (ρ.getD 70 default).lst.map decN)
 [.i 0, ρ.getD 2 default, .l (z.1.map encN), .l (z.2.map encN)]
def prGr (ρ : List D) : Prop := ∃ (N : Nat) (A : List (Nat × Nat)) (i : Nat) (F out : List Nat), ρ = .i (sizeD N A) :: .l (A.map encA) :: .i (A.length : Int) :: .i (i : Int) :: .l (F.map encN) :: .i (N : Int) :: ((cellsA A).map D.i ++ [.l (out.map encN)]) ∧ i ≤ A.length ∧ N ≤ 8 ∧ Okk N A ∧ A.length ≤ 100000 ∧ F.length = N ∧ (∀ v, F.getD v 0 < 256) ∧ out.length ≤ i
def dgPre (ds : List D) : Prop := ∃ (N : Nat) (A : List (Nat × Nat)), ds = [.i (N : Int), .l (A.map encA)] ∧ N ≤ 8 ∧ Okk N A ∧ A.length ≤ 256
def clD (ds : List D) : List D := [.l ((leastD (ds.getD 0 default).int.toNat ((ds.getD 1 default).lst.map decA)).map encN), .i 0]
def dvD (_ : List D) : List D := [.b true]
def prDv (ρ : List D) : Prop := ∃ (N : Nat) (A : List (Nat × Nat)) (i : Nat) (x : D), ρ = [x, .l (A.map encA), .i (A.length : Int), .i (i : Int), .i (N : Int), .l (A.map encA)] ∧ i ≤ A.length ∧ Okk N A ∧ A.length ≤ 256
def lpDv (ρ : List D) : List D := [.i 1, ρ.getD 0 default, ρ.getD 2 default]
theorem cellAt_A {A : List (Nat × Nat)} {v u : Nat} (hv : v < 8) (hu : u < 8) : cellAt (cellsA A) v u = cntA A v u := by
 have h : v * 8 + u < 64 := by omega
 have h1 : (v * 8 + u) / 8 = v := by omega
 have h2 : (v * 8 + u) % 8 = u := by omega
 simp [cellAt, cellsA, List.getD, h, h1, h2]
theorem fold_congr {α : Type} {f g : Nat → α → α} {n : Nat} (h : ∀ i s, i < n → f i s = g i s) : ∀ (k i : Nat) (s : α), i + k = n → foldN f n i s = foldN g n i s
 | 0, i, s, hk => by
  have : i = n := by omega
  subst this
  rw [fold_end, fold_end]
 | k + 1, i, s, hk => by rw [fold_next (f := f) (i := i) (s := s) (by omega), fold_next (f := g) (i := i) (s := s) (by omega), h i s (by omega), fold_congr h k (i + 1) _ (by omega)]
theorem least_congr {N : Nat} {c c' : Nat → Nat → Int} (F : Nat → Nat) (hN : N ≤ 8) (h : ∀ v u, v < 8 → u < 8 → c v u = c' v u) : leastV N c F = leastV N c' F := by
 have hs : ∀ v s, v < 8 → sumB c v s = sumB c' v s := fun v s hv => by
  unfold sumB
  congr 1
  refine List.map_congr_left fun u hu => ?_
  have : u < 8 := by
   have := (List.mem_filter.1 hu).1
   simpa using this
  exact h v u hv this
 have hp := Nat.two_pow_pos N
 unfold leastV dpT
 rw [fold_congr (f := dpS N c F) (g := dpS N c' F) (fun s T _ => ?_) (2 ^ N - 1) 1 _ (by omega)]
 unfold dpS
 refine fold_congr (fun v T hv => ?_) N 0 _ (by omega)
 unfold dpV
 rw [hs v _ (by omega)]
end Go.Proofs.YtinaaabmmjpijaaDoor.rv
namespace Go.Proofs.YtinaaabmmjpijaaDoor.rv
set_option maxRecDepth 10000
open Go.RV Lo
structure OkS (S : List Nat) (m : Nat) : Prop where
 nd : S.Nodup
 lt : ∀ s ∈ S, s < m
theorem OkS.len {S : List Nat} {m : Nat} (h : OkS S m) : S.length ≤ m := by
 have := len_sub S (List.range m) h.nd fun v hv => List.mem_range.2 (h.lt v hv)
 simpa using this
def swp (a : Nat × Nat) : Nat × Nat := (a.2, a.1)
def flipS (A : List (Nat × Nat)) (S : List Nat) : List (Nat × Nat) := (List.range A.length).map fun i => if i ∈ S then swp (arc A i) else arc A i
theorem flipS_len (A : List (Nat × Nat)) (S : List Nat) : (flipS A S).length = A.length := by simp [flipS]
theorem flipS_get (A : List (Nat × Nat)) (S : List Nat) {i : Nat} (h : i < A.length) : arc (flipS A S) i = if i ∈ S then swp (arc A i) else arc A i := by
 simp [arc, flipS, List.getD, h]
theorem arc_ext {A B : List (Nat × Nat)} (h : A.length = B.length) (hg : ∀ i, i < A.length → arc A i = arc B i) : A = B := by
 refine List.ext_getElem h fun i h1 h2 => ?_
 have := hg i h1
 simpa [arc, List.getD, h1, h2] using this
theorem flipS_nil (A : List (Nat × Nat)) : flipS A [] = A := arc_ext (flipS_len A []) fun i hi => by
 rw [flipS_len] at hi
 rw [flipS_get A [] hi]
 simp
theorem mem_take_succ {S : List Nat} {j x : Nat} (h : j < S.length) : x ∈ S.take (j + 1) ↔ x ∈ S.take j ∨ x = S.getD j 0 := by
 rw [List.take_succ_eq_append_getElem h, List.mem_append, List.mem_singleton]
 have : S.getD j 0 = S[j] := by simp [List.getD, h]
 rw [this]
theorem not_take {S : List Nat} {j : Nat} (h : j < S.length) (hn : S.Nodup) : S.getD j 0 ∉ S.take j := by
 have e : S.getD j 0 = S[j] := by simp [List.getD, h]
 rw [e]
 intro hm
 have h2 : S.take (j + 1) = S.take j ++ [S[j]] := List.take_succ_eq_append_getElem h
 have h3 : (S.take (j + 1)).Nodup := hn.sublist (List.take_sublist _ _)
 rw [h2] at h3
 exact (List.nodup_append.1 h3).2.2 _ hm _ (List.mem_singleton.2 rfl) rfl
theorem flipS_step {A : List (Nat × Nat)} {S : List Nat} {j : Nat} (h : j < S.length) (hS : OkS S A.length) : flipS A (S.take (j + 1)) = (flipS A (S.take j)).set (S.getD j 0) (swp (arc A (S.getD j 0))) := by
 have hs : S.getD j 0 < A.length := hS.lt _ (by simp [List.getD, h])
 refine arc_ext (by simp [flipS_len]) fun i hi => ?_
 rw [flipS_len] at hi
 rw [flipS_get A _ hi]
 by_cases e : i = S.getD j 0
 ·subst e
  rw [if_pos ((mem_take_succ h).2 (.inr rfl))]
  have : S.getD j 0 < (flipS A (S.take j)).length := by rw [flipS_len]; exact hs
  unfold arc
  simp [List.getD] at this ⊢
  simp [this]
 ·have e1 : arc ((flipS A (S.take j)).set (S.getD j 0) (swp (arc A (S.getD j 0)))) i = arc (flipS A (S.take j)) i := by
   unfold arc
   rw [List.getD_eq_getElem?_getD, List.getElem?_set_ne (fun x => e x.symm), List.getD_eq_getElem?_getD]
  rw [e1, flipS_get A _ hi]
  have : (i ∈ S.take (j + 1)) = (i ∈ S.take j) := by
   apply propext
   rw [mem_take_succ h]
   constructor
   ·rintro (h | h)
    ·exact h
    ·exact absurd h e
   ·exact .inl
  simp only [this]
def lpFl (ρ : List D) : List D := [.i 0, ρ.getD 1 default, .l ((flipS ((ρ.getD 4 default).lst.map decA) ((ρ.getD 0 default).lst.map decN)).map encA)]
def prFl (ρ : List D) : Prop := ∃ (A : List (Nat × Nat)) (S : List Nat) (j : Nat) (x y : D), ρ = [.l (S.map encN), .i (S.length : Int), .i (j : Int), x, .l (A.map encA), .l ((flipS A (S.take j)).map encA), y] ∧ j ≤ S.length ∧ OkS S A.length ∧ A.length ≤ 1000000
def lpLi (ρ : List D) : List D := [.i 1, ρ.getD 2 default, ρ.getD 4 default]
def prLi (ρ : List D) : Prop := ∃ (S : List Nat) (m j : Nat) (x : D), ρ = [.l (S.map encN), .i (m : Int), x, .l (S.map encN), .i (S.length : Int), .i (j : Int)] ∧ j ≤ S.length ∧ OkS S m ∧ m ≤ 1000000
def liPre (ds : List D) : Prop := ∃ (S : List Nat) (m : Nat), ds = [.l (S.map encN), .i (m : Int)] ∧ OkS S m ∧ m ≤ 1000000
def liD (_ : List D) : List D := [.i 0]
def rpPre (ds : List D) : Prop := ∃ (S : List Nat) (m j : Nat), ds = [.l (S.map encN), .i (j : Int)] ∧ j < S.length ∧ OkS S m ∧ m ≤ 1000000
def rpD (_ : List D) : List D := [.b false]
def flD (ds : List D) : List D := [ds.getD 0 default, .l ((flipS ((ds.getD 1 default).lst.map decA) ((ds.getD 2 default).lst.map decN)).map encA), .i 0]
def flPre (ds : List D) : Prop := ∃ (N : Nat) (A : List (Nat × Nat)) (S : List Nat), ds = [.i (N : Int), .l (A.map encA), .l (S.map encN)] ∧ N ≤ 8 ∧ Okk N A ∧ A.length ≤ 256 ∧ OkS S A.length
def bkD (ds : List D) : List D :=
 let N := (ds.getD 0 default).int.toNat
 let A := (ds.getD 1 default).lst.map decA
 [.l ((leastD N A).map encN), ds.getD 0 default, .l ((flipS A (leastD N A)).map encA)]
def lpRv (ρ : List D) : List D := [.i 1, ρ.getD 0 default, .i ((ρ.getD 3 default).lst.length : Int)]
def prRv (ρ : List D) : Prop := ∃ (N : Nat) (A : List (Nat × Nat)) (i : Nat) (x : D), ρ = [x, .i (i : Int), .i (N : Int), .l (A.map encA)] ∧ i ≤ A.length ∧ Okk N A ∧ A.length ≤ 256
def atR (N : Nat) (o : List Nat) : List Nat := (List.range N).map fun v => if v ∈ o then o.idxOf v else 0
def lpAt (ρ : List D) : List D := [.i 0, .i ((ρ.getD 0 default).lst.length : Int), .l ((atR (ρ.getD 2 default).lst.length ((ρ.getD 0 default).lst.map decN)).map encN)]
def prAt (ρ : List D) : Prop := ∃ (N : Nat) (o : List Nat) (i : Nat), ρ = [.l (o.map encN), .i (i : Int), .l ((atR N (o.take i)).map encN)] ∧ i ≤ o.length ∧ Ord N o ∧ N ≤ 8
def bkAt (A : List (Nat × Nat)) (t : List Nat) (i : Nat) : Bool := decide (t.getD (arc A i).2 0 < t.getD (arc A i).1 0)
def lpBk (ρ : List D) : List D := [.i 0, .i ((ρ.getD 2 default).lst.length : Int), .l (((List.range (ρ.getD 2 default).lst.length).filter (bkAt ((ρ.getD 2 default).lst.map decA) ((ρ.getD 3 default).lst.map decN))).map encN)]
def prBk (ρ : List D) : Prop := ∃ (N : Nat) (A : List (Nat × Nat)) (t : List Nat) (i : Nat), ρ = [.i (i : Int), .i (N : Int), .l (A.map encA), .l (t.map encN), .l (((List.range i).filter (bkAt A t)).map encN)] ∧ i ≤ A.length ∧ Okk N A ∧ A.length ≤ 256 ∧ t.length = N
def bwD (ds : List D) : List D := [.l ((backL ((ds.getD 1 default).lst.map decA) ((ds.getD 2 default).lst.map decN)).map encN)]
def bwPre (ds : List D) : Prop := ∃ (N : Nat) (A : List (Nat × Nat)) (o : List Nat), ds = [.i (N : Int), .l (A.map encA), .l (o.map encN)] ∧ N ≤ 8 ∧ Okk N A ∧ A.length ≤ 256 ∧ Full N o
def lxScan : List Nat → List Nat → D → Nat → List D
 | a :: xs, b :: ys, x, i => if a = b then lxScan xs ys x (i + 1) else [.i 0, .b (decide (a < b)), .i (i : Int)]
 | _, _, x, i => [.i 1, x, .i (i : Int)]
def lpLx (ρ : List D) : List D := lxScan (((ρ.getD 0 default).lst.map decN).drop (ρ.getD 3 default).int.toNat) (((ρ.getD 1 default).lst.map decN).drop (ρ.getD 3 default).int.toNat) (ρ.getD 2 default) (ρ.getD 3 default).int.toNat
def prLx (ρ : List D) : Prop := ∃ (a b : List Nat) (x : D) (i : Nat), ρ = [.l (a.map encN), .l (b.map encN), x, .i (i : Int)] ∧ i ≤ a.length ∧ a.length = b.length ∧ a.length ≤ 256
def lxD (ds : List D) : List D := [.b (lessL ((ds.getD 0 default).lst.map decN) ((ds.getD 1 default).lst.map decN))]
def lxPre (ds : List D) : Prop := ∃ (a b : List Nat), ds = [.l (a.map encN), .l (b.map encN)] ∧ a.length ≤ 256 ∧ b.length ≤ 256
def lpUs (ρ : List D) : List D := [.i 0, .b ((ρ.getD 2 default).bool || (((ρ.getD 0 default).lst.map decN).drop (ρ.getD 3 default).int.toNat).contains (ρ.getD 1 default).int.toNat), .i ((ρ.getD 0 default).lst.length : Int)]
def prUs (ρ : List D) : Prop := ∃ (o : List Nat) (v i : Nat) (b : Bool), ρ = [.l (o.map encN), .i (v : Int), .b b, .i (i : Int)] ∧ i ≤ o.length ∧ o.length ≤ 8
def lpSe (ρ : List D) : List D :=
 let N := (ρ.getD 4 default).int.toNat
 let A := (ρ.getD 5 default).lst.map decA
 let o := (ρ.getD 0 default).lst.map decN
 let z := foldN (turnS o (srch N A (N - o.length - 1))) N (ρ.getD 3 default).int.toNat ((ρ.getD 1 default).lst.map decN, (ρ.getD 2 default).bool)
 [.i 0, .l (z.1.map encN), .b z.2, ρ.getD 4 default]
def prSeD (d : Nat) (ρ : List D) : Prop := ∃ (N : Nat) (A : List (Nat × Nat)) (o best : List Nat) (found : Bool) (v : Nat), ρ = [.l (o.map encN), .l (best.map encN), .b found, .i (v : Int), .i (N : Int), .l (A.map encA)] ∧ N ≤ 8 ∧ Okk N A ∧ A.length ≤ 256 ∧ Ord N o ∧ o.length < N ∧ N < o.length + 1 + d ∧ v ≤ N ∧ best.length ≤ 256
def seD (ds : List D) : List D :=
 let N := (ds.getD 0 default).int.toNat
 let o := (ds.getD 2 default).lst.map decN
 [.l ((srch N ((ds.getD 1 default).lst.map decA) (N - o.length) o).map encN)]
def sePreD (d : Nat) (ds : List D) : Prop := ∃ (N : Nat) (A : List (Nat × Nat)) (o : List Nat), ds = [.i (N : Int), .l (A.map encA), .l (o.map encN)] ∧ N ≤ 8 ∧ Okk N A ∧ A.length ≤ 256 ∧ Ord N o ∧ N < o.length + d
def rlD (ds : List D) : List D := [.l ((srch (ds.getD 0 default).int.toNat ((ds.getD 1 default).lst.map decA) (ds.getD 0 default).int.toNat []).map encN), .i 0]
def lpRf (ρ : List D) : List D := [.i 0, .i ((ρ.getD 0 default).lst.length : Int), .l (((foldN (fun j (B : List (Nat × Nat)) => B.set (((ρ.getD 0 default).lst.map decN).getD j 0) (swp (arc B (((ρ.getD 0 default).lst.map decN).getD j 0)))) (ρ.getD 0 default).lst.length (ρ.getD 1 default).int.toNat ((ρ.getD 3 default).lst.map decA))).map encA)]
def prRf (ρ : List D) : Prop := ∃ (N : Nat) (A : List (Nat × Nat)) (S : List Nat) (j : Nat), ρ = [.l (S.map encN), .i (j : Int), .i (N : Int), .l (A.map encA)] ∧ j ≤ S.length ∧ OkS S A.length ∧ A.length ≤ 256
def rfD (ds : List D) : List D := [ds.getD 0 default, .l ((flipS ((ds.getD 1 default).lst.map decA) ((ds.getD 2 default).lst.map decN)).map encA)]
end Go.Proofs.YtinaaabmmjpijaaDoor.rv
namespace Go.Proofs.YtinaaabmmjpijaaDoor.rv
set_option maxRecDepth 10000
open Go.RV Lo Sx
def portB (xs : List (List D)) (j : Nat) : Bool := decide (40 < ((cS (el xs j) 0).size : Int))
def nodeF (N : List (List D)) (j : Nat) : Bool := ((decide (40 < ((cS (el N j) 0).size : Int)) || decide (80 < ((cS (el N j) 1).size : Int))) || decide (9 < ((cL (el N j) 5).length : Int))) || anyN (portB (cL (el N j) 5)) (cL (el N j) 5).length
def edgeF (E : List (List D)) (j : Nat) : Bool := decide (80 < ((cS (el E j) 4).size : Int)) || decide (4 < cI (el E j) 6)
def fewB (g : Gd) (n e : Int) : Bool :=
 !(((decide (n < (g.N.length : Int)) || decide (e < (g.E.length : Int))) || decide (6 < (g.C.length : Int))) || decide (40 < (g.nm.size : Int))) &&
  (!anyN (nodeF g.N) g.N.length && (!anyN (edgeF g.E) g.E.length && !anyN (portB g.C) g.C.length))
def scF (p : Nat → Bool) (v : D) (n i : Nat) : List D := scanN p (fun j => [.i 0, .b false, .i (j : Int)]) (fun j => [.i 1, v, .i (j : Int)]) (n - i) i
def lpF1 (ρ : List D) : List D := scF (portB (ρ.getD 7 default).lst) (ρ.getD 0 default) (ρ.getD 7 default).lst.length (ρ.getD 1 default).int.toNat
def prF1 (ρ : List D) : Prop := ∃ (v a b c d e : D) (xs : List (List D)) (j : Nat), ρ = [v, .i (j : Int), a, b, c, d, e, .l xs] ∧ j ≤ xs.length ∧ xs.length ≤ 9
def lpF0 (ρ : List D) : List D := scF (nodeF (ρ.getD 4 default).lst) (ρ.getD 0 default) (ρ.getD 4 default).lst.length (ρ.getD 1 default).int.toNat
def prF0 (ρ : List D) : Prop := ∃ (v a b c d : D) (xs : List (List D)) (j : Nat), ρ = [v, .i (j : Int), a, b, .l xs, c, d] ∧ j ≤ xs.length ∧ xs.length ≤ 1000 ∧ ∀ x ∈ xs, x.getD 5 default = .l (cL x 5)
def lpF2 (ρ : List D) : List D := scF (edgeF (ρ.getD 5 default).lst) (ρ.getD 0 default) (ρ.getD 5 default).lst.length (ρ.getD 1 default).int.toNat
def prF2 (ρ : List D) : Prop := ∃ (v a b c d : D) (xs : List (List D)) (j : Nat), ρ = [v, .i (j : Int), a, b, c, .l xs, d] ∧ j ≤ xs.length ∧ xs.length ≤ 1000
def lpF3 (ρ : List D) : List D := scF (portB (ρ.getD 6 default).lst) (ρ.getD 0 default) (ρ.getD 6 default).lst.length (ρ.getD 1 default).int.toNat
def prF3 (ρ : List D) : Prop := ∃ (v a b c d : D) (xs : List (List D)) (j : Nat), ρ = [v, .i (j : Int), a, b, c, d, .l xs] ∧ j ≤ xs.length ∧ xs.length ≤ 1000
def fewD (ds : List D) : List D := [.b (fewB (gOf ds) (ds.getD 5 default).int (ds.getD 6 default).int)]
def fewPre (ds : List D) : Prop := ∃ g : Gd, ds = g.ds ++ [.i 8, .i 10] ∧ ∀ x ∈ g.N, x.getD 5 default = .l (cL x 5)
structure GG (g : Gd) : Prop where
 n8 : g.N.length ≤ 8
 e : g.E.length ≤ 256
 nm : ∀ x ∈ g.E, x.getD 0 default = .i (cI x 0) ∧ x.getD 1 default = .i (cI x 1)
 bd : ∀ x ∈ g.E, 0 ≤ cI x 0 ∧ cI x 0 < g.N.length ∧ 0 ≤ cI x 1 ∧ cI x 1 < g.N.length ∧ 1 ≤ cI x 5 ∧ cI x 5 ≤ 1000 ∧ 1 ≤ cI x 6 ∧ cI x 6 ≤ 64
 wl : ∀ x ∈ g.E, x.getD 5 default = .i (cI x 5) ∧ x.getD 6 default = .i (cI x 6)
def arcsG (E : List (List D)) : List (Nat × Nat) := E.map fun x => ((cI x 0).toNat, (cI x 1).toNat)
def brkG (g : Gd) : List (Nat × Nat) := flipS (arcsG g.E) (leastD g.N.length (arcsG g.E))
def kpN (B : List (Nat × Nat)) (n : Nat) : List Nat := (List.range n).filter fun i => decide ((arc B i).1 ≠ (arc B i).2)
def keepL (B : List (Nat × Nat)) : List Nat := kpN B B.length
def netK (Ar : List (Nat × Nat)) (K : List Nat) (E : List (List D)) (n : Nat) : List Bd := (List.range n).map fun k => ⟨(arc Ar k).1, (arc Ar k).2, cI (el E (K.getD k 0)) 6, cI (el E (K.getD k 0)) 5⟩
def keptA (B : List (Nat × Nat)) : List (Nat × Nat) := (keepL B).map (arc B)
def netG (g : Gd) : List Bd := netK (keptA (brkG g)) (keepL (brkG g)) g.E (keptA (brkG g)).length
def ggPre (ds : List D) : Prop := ∃ g : Gd, ds = g.ds ∧ GG g
def lpAc (ρ : List D) : List D := [.i 0, ρ.getD 1 default, .l ((keptA ((ρ.getD 0 default).lst.map decA)).map encA), .l ((keepL ((ρ.getD 0 default).lst.map decA)).map encN)]
def prAc (ρ : List D) : Prop := ∃ (B : List (Nat × Nat)) (i : Nat) (x : D), ρ = [.l (B.map encA), .i (B.length : Int), .i (i : Int), x, .l (((kpN B i).map (arc B)).map encA), .l ((kpN B i).map encN)] ∧ i ≤ B.length ∧ B.length ≤ 256
def acD (ds : List D) : List D := [.i ((gOf ds).N.length : Int), .l ((keptA (brkG (gOf ds))).map encA), .l ((keepL (brkG (gOf ds))).map encN)]
def lpRc (ρ : List D) : List D := [.i 0, .i ((ρ.getD 2 default).lst.length : Int), .l ((keepL ((ρ.getD 2 default).lst.map decA)).map encN), .l ((keptA ((ρ.getD 2 default).lst.map decA)).map encA)]
def prRc (ρ : List D) : Prop := ∃ (B : List (Nat × Nat)) (i : Nat) (x y : D), ρ = [.i (i : Int), x, .l (B.map encA), y, .l ((kpN B i).map encN), .l (((kpN B i).map (arc B)).map encA)] ∧ i ≤ B.length ∧ B.length ≤ 256
def EOk (E : List (List D)) : Prop := ∀ x ∈ E, x.getD 5 default = .i (cI x 5) ∧ x.getD 6 default = .i (cI x 6)
def lpRd (ρ : List D) : List D := [.i 0, ρ.getD 1 default, .l ((netK ((ρ.getD 0 default).lst.map decA) ((ρ.getD 5 default).lst.map decN) (ρ.getD 9 default).lst (ρ.getD 0 default).lst.length).map encB)]
def prRd (ρ : List D) : Prop := ∃ (Ar : List (Nat × Nat)) (K : List Nat) (E : List (List D)) (k : Nat) (x1 x2 x3 x4 x5 x6 : D), ρ = [.l (Ar.map encA), .i (Ar.length : Int), .i (k : Int), x1, .l (Ar.map encA), .l (K.map encN), x2, x3, x4, .l E, x5, x6, .l ((netK Ar K E k).map encB)] ∧ k ≤ Ar.length ∧ K.length = Ar.length ∧ (∀ k, k < K.length → K.getD k 0 < E.length) ∧ EOk E ∧ Ar.length ≤ 256
def rdPre (ds : List D) : Prop := ∃ g : Gd, ds = .i (g.N.length : Int) :: .l ((keptA (brkG g)).map encA) :: .l ((keepL (brkG g)).map encN) :: g.ds ∧ GG g
def rdD (ds : List D) : List D := svD [ds.getD 0 default, .l ((netK ((ds.getD 1 default).lst.map decA) ((ds.getD 2 default).lst.map decN) (ds.getD 6 default).lst (ds.getD 1 default).lst.length).map encB)]
def setAt (K : List Nat) (f : List Int) (k : Nat) (l : List Int) : List Int := l.set (K.getD k 0) (f.getD k 0)
def lpRa (ρ : List D) : List D := [.i 0, ρ.getD 2 default, .l ((foldN (setAt ((ρ.getD 1 default).lst.map decN) ((ρ.getD 0 default).lst.map decI)) (ρ.getD 2 default).int.toNat (ρ.getD 3 default).int.toNat ((ρ.getD 4 default).lst.map decI)).map encI)]
def prRa (ρ : List D) : Prop := ∃ (f : List Int) (K : List Nat) (k : Nat) (l : List Int), ρ = [.l (f.map encI), .l (K.map encN), .i (K.length : Int), .i (k : Int), .l (l.map encI)] ∧ k ≤ K.length ∧ f.length = K.length ∧ (∀ k, k < K.length → K.getD k 0 < l.length) ∧ K.length ≤ 256
def raD (ds : List D) : List D :=
 let g := gOf ds
 [.l ((solveR g.N.length (netG g)).map encI), .l ((foldN (setAt (keepL (brkG g)) (cert g.N.length (netG g)).1) (keepL (brkG g)).length 0 (List.replicate g.E.length 0)).map encI), .i 0]
def raPre (ds : List D) : Prop := ∃ g : Gd, ds = g.ds ∧ GG g ∧ validE g = 0
def lpRn (ρ : List D) : List D := [.i 0, .i ((ρ.getD 0 default).lst.length : Int), .l ((netK ((ρ.getD 8 default).lst.map decA) ((ρ.getD 0 default).lst.map decN) (ρ.getD 5 default).lst (ρ.getD 0 default).lst.length).map encB)]
def prRn (ρ : List D) : Prop := ∃ (Ar : List (Nat × Nat)) (K : List Nat) (E : List (List D)) (k : Nat) (x1 x2 x3 x4 x5 x6 : D), ρ = [.l (K.map encN), .i (k : Int), x1, x2, x3, .l E, x4, x5, .l (Ar.map encA), x6, .l ((netK Ar K E k).map encB)] ∧ k ≤ K.length ∧ Ar.length = K.length ∧ (∀ k, k < K.length → K.getD k 0 < E.length) ∧ EOk E ∧ K.length ≤ 256
def rnD (ds : List D) : List D := [.i ((gOf ds).N.length : Int), .l ((netG (gOf ds)).map encB)]
def lpSm (ρ : List D) : List D := [.i 1, ρ.getD 2 default, .i ((ρ.getD 0 default).lst.length : Int)]
def prSm (ρ : List D) : Prop := ∃ (l : List Int) (x : D) (i : Nat), ρ = [.l (l.map encI), .l (l.map encI), x, .i (i : Int)] ∧ i ≤ l.length ∧ l.length ≤ 2048
def smPre (ds : List D) : Prop := ∃ l : List Int, ds = [.l (l.map encI), .l (l.map encI)] ∧ l.length ≤ 2048
def fanG : Gd := ⟨⟨#[103]⟩, true, [[.s ⟨#[97]⟩, .s ⟨#[97]⟩, .i 20000, .i 10000, .i (-1), .l []], [.s ⟨#[98]⟩, .s ⟨#[97]⟩, .i 20000, .i 10000, .i (-1), .l []], [.s ⟨#[99]⟩, .s ⟨#[97]⟩, .i 20000, .i 10000, .i (-1), .l []]],
 [[.i 0, .i 1, .i (-1), .i (-1), .s ⟨#[]⟩, .i 1, .i 1], [.i 0, .i 2, .i (-1), .i (-1), .s ⟨#[]⟩, .i 1, .i 1]], []⟩
def fanD (_ : List D) : List D := fanG.ds
def dfB (xs ys : List (List D)) (j : Nat) : Bool := !((cI (el xs j) 0 == cI (el ys j) 0) && ((cI (el xs j) 1 == cI (el ys j) 1) && ((cI (el xs j) 2 == cI (el ys j) 2) && (cI (el xs j) 3 == cI (el ys j) 3))))
def lpLw (ρ : List D) : List D := scanN (dfB (ρ.getD 3 default).lst (ρ.getD 5 default).lst) (fun j => [.i 0, .b true, .i (j : Int)]) (fun j => [.i 1, ρ.getD 0 default, .i (j : Int)]) ((ρ.getD 3 default).lst.length - (ρ.getD 1 default).int.toNat) (ρ.getD 1 default).int.toNat
def prLw (ρ : List D) : Prop := ∃ (v a b : D) (xs ys : List (List D)) (j : Nat), ρ = [v, .i (j : Int), a, .l xs, b, .l ys] ∧ j ≤ xs.length ∧ xs.length ≤ ys.length ∧ ys.length ≤ 1000
def lawPre (ds : List D) : Prop := (cL ds 3).length < 2199023255552
def okD (_ : List D) : List D := [.b true]
def anyP (_ : List D) : Prop := True
end Go.Proofs.YtinaaabmmjpijaaDoor.rv
