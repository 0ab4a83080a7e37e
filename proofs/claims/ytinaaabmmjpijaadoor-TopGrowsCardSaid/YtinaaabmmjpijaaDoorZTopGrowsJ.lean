/-
 Orders of vertices: least numbers of backward arcs by subsets; arc by arc.
-/
import Derived.Test.YtinaaabmmjpijaaDoorZTopGrowsI
namespace Go.Proofs.YtinaaabmmjpijaaDoor.rv
set_option maxRecDepth 10000
open Go.RV
namespace Lo
def dif (a b : Nat) : Nat := a ^^^ (a &&& b)
theorem dif_bit (a b u : Nat) : (dif a b).testBit u = (a.testBit u && !b.testBit u) := by
 simp only [dif, Nat.testBit_xor, Nat.testBit_and]
 cases a.testBit u <;> cases b.testBit u <;> rfl
theorem one_bit (v u : Nat) : ((1 : Nat) <<< v).testBit u = decide (v = u) := by
 rw [Nat.one_shiftLeft, Nat.testBit_two_pow]
theorem dif_zero {a b : Nat} : dif a b = 0 ↔ ∀ u, a.testBit u = true → b.testBit u = true := by
 constructor
 ·intro h u ha
  have := congrArg (·.testBit u) h
  simp only [dif_bit, Nat.zero_testBit, ha, Bool.true_and] at this
  simpa using this
 ·intro h
  refine Nat.eq_of_testBit_eq fun u => ?_
  rw [dif_bit, Nat.zero_testBit]
  cases ha : a.testBit u with
  | false => rfl
  | true => rw [h u ha]; rfl
def mask : List Nat → Nat
 | [] => 0
 | v :: r => mask r ||| 1 <<< v
theorem mask_bit (u : Nat) : ∀ r : List Nat, (mask r).testBit u = decide (u ∈ r)
 | [] => by simp [mask]
 | v :: r => by
  simp only [mask, Nat.testBit_or, mask_bit u r, one_bit, List.mem_cons]
  by_cases h1 : u ∈ r <;> by_cases h2 : v = u
  ·simp [h1]
  ·simp [h1]
  ·simp [h2]
  ·have : ¬ u = v := fun e => h2 e.symm
   simp [h1, h2, this]
def rest (s v : Nat) : Nat := dif s (1 <<< v)
theorem rest_bit (s v u : Nat) : (rest s v).testBit u = (s.testBit u && !decide (v = u)) := by rw [rest, dif_bit, one_bit]
theorem rest_mask {v : Nat} {r : List Nat} (h : v ∉ r) : rest (mask (v :: r)) v = mask r := by
 refine Nat.eq_of_testBit_eq fun u => ?_
 rw [rest_bit, mask_bit, mask_bit]
 by_cases e : v = u
 ·subst e; simp [h]
 ·have : u ≠ v := fun x => e x.symm
  simp [e, this]
theorem mask_rest {s v : Nat} {r : List Nat} (hs : s.testBit v = true) (h : mask r = rest s v) : mask (v :: r) = s := by
 refine Nat.eq_of_testBit_eq fun u => ?_
 rw [mask, Nat.testBit_or, h, rest_bit, one_bit]
 by_cases e : v = u
 ·subst e; simp [hs]
 ·simp [e]
theorem rest_lt {s v : Nat} (hs : s.testBit v = true) : rest s v < s := by
 have h1 : rest s v ≤ s := Nat.le_of_testBit fun u hu => by
  rw [rest_bit] at hu
  cases h : s.testBit u with
  | true => rfl
  | false => rw [h] at hu; exact nomatch hu
 have h2 : rest s v ≠ s := fun e => by
  have := rest_bit s v v
  rw [e, hs] at this
  simp at this
 omega
def outC (A : List (Nat × Nat)) (v : Nat) (p : Nat → Bool) : Nat := A.countP fun a => decide (a.1 = v) && p a.2
def costR (A : List (Nat × Nat)) : List Nat → Nat
 | [] => 0
 | v :: r => costR A r + outC A v fun u => decide (u ∈ r)
def AdmR (F : Nat → Nat) : List Nat → Prop
 | [] => True
 | v :: r => (∀ u, (F v).testBit u = true → u ∈ r) ∧ AdmR F r
def bk : List Nat → Nat → Nat → Bool
 | [], _, _ => false
 | v :: r, a, b => if a = v then decide (b ∈ r) else bk r a b
theorem bk_mem : ∀ (r : List Nat) (a b : Nat), bk r a b = true → a ∈ r
 | [], _, _, h => nomatch h
 | v :: r, a, b, h => by
  simp only [bk] at h
  by_cases e : a = v
  ·subst e; exact List.mem_cons_self ..
  ·rw [if_neg e] at h
   exact List.mem_cons_of_mem _ (bk_mem r a b h)
theorem costR_eq (A : List (Nat × Nat)) : ∀ r : List Nat, r.Nodup → costR A r = A.countP fun a => bk r a.1 a.2
 | [], _ => by simp [costR, bk]
 | v :: r, hn => by
  have hv := List.nodup_cons.1 hn
  rw [costR, costR_eq A r hv.2, outC]
  clear hn
  induction A with
  | nil => rfl
  | cons a A ih =>
   simp only [List.countP_cons]
   have : (bk (v :: r) a.1 a.2) = (bk r a.1 a.2 || (decide (a.1 = v) && decide (a.2 ∈ r))) ∧ (bk r a.1 a.2 && decide (a.1 = v)) = false := by
    simp only [bk]
    by_cases e : a.1 = v
    ·have hb : bk r a.1 a.2 = false := by
      cases h : bk r a.1 a.2 with
      | false => rfl
      | true => exact absurd (e ▸ bk_mem r _ _ h) hv.1
     rw [if_pos e, hb]
     simp [e]
    ·rw [if_neg e]
     simp [e]
   obtain ⟨h1, h2⟩ := this
   rw [h1]
   cases hb : bk r a.1 a.2 <;> cases hd : decide (a.1 = v) <;> rw [hb, hd] at h2 <;> simp_all <;> omega
theorem bk_idx : ∀ (r : List Nat) (a b : Nat), r.Nodup → a ∈ r → bk r a b = decide (r.reverse.idxOf b < r.reverse.idxOf a)
 | [], _, _, _, h => nomatch h
 | v :: r, a, b, hn, hm => by
  have hv := List.nodup_cons.1 hn
  have hl : ∀ x, x ∉ r.reverse → r.reverse.length ≤ r.reverse.idxOf x := fun x hx => by
   apply Classical.byContradiction
   intro h
   exact hx (List.idxOf_lt_length_iff.1 (by omega))
  rw [List.reverse_cons, List.idxOf_append, List.idxOf_append]
  simp only [bk]
  by_cases e : a = v
  ·subst e
   have ha1 : a ∉ r.reverse := by simpa using hv.1
   rw [if_pos rfl, if_neg ha1]
   have h0 : List.idxOf a [a] = 0 := by simp
   rw [h0]
   by_cases hb : b ∈ r
   ·have h1 : b ∈ r.reverse := by simpa using hb
    have := List.idxOf_lt_length_iff.2 h1
    rw [if_pos h1, decide_eq_true hb, decide_eq_true (by omega)]
   ·have h1 : b ∉ r.reverse := by simpa using hb
    rw [if_neg h1, decide_eq_false hb, decide_eq_false (by omega)]
  ·have ha : a ∈ r := by
    rcases List.mem_cons.1 hm with h | h
    ·exact absurd h e
    ·exact h
   have ha' : a ∈ r.reverse := by simpa using ha
   have hal := List.idxOf_lt_length_iff.2 ha'
   rw [if_neg e, if_pos ha', bk_idx r a b hv.2 ha]
   by_cases hb : b ∈ r
   ·have h1 : b ∈ r.reverse := by simpa using hb
    rw [if_pos h1]
   ·have h1 : b ∉ r.reverse := by simpa using hb
    have := hl b h1
    rw [if_neg h1, decide_eq_false (by omega), decide_eq_false (by omega)]
theorem AdmR_iff (F : Nat → Nat) : ∀ r : List Nat, r.Nodup → (AdmR F r ↔ ∀ v, v ∈ r → ∀ u, (F v).testBit u = true → bk r v u = true)
 | [], _ => by simp [AdmR]
 | w :: r, hn => by
  have hw := List.nodup_cons.1 hn
  rw [AdmR, AdmR_iff F r hw.2]
  constructor
  ·rintro ⟨h1, h2⟩ v hv u hu
   simp only [bk]
   by_cases e : v = w
   ·subst e; rw [if_pos rfl]; simpa using h1 u hu
   ·rw [if_neg e]
    rcases List.mem_cons.1 hv with h | h
    ·exact absurd h e
    ·exact h2 v h u hu
  ·intro h
   refine ⟨fun u hu => ?_, fun v hv u hu => ?_⟩
   ·have := h w (List.mem_cons_self ..) u hu
    simpa [bk] using this
   ·have := h v (List.mem_cons_of_mem _ hv) u hu
    simp only [bk] at this
    rwa [if_neg (by rintro rfl; exact hw.1 hv)] at this
def Adm (F : Nat → Nat) (N : Nat) (p : List Nat) : Prop := ∀ v, v < N → ∀ u, (F v).testBit u = true → p.idxOf u < p.idxOf v
theorem nodup_rev {r : List Nat} (h : r.Nodup) : r.reverse.Nodup := by
 unfold List.Nodup at *
 exact List.pairwise_reverse.2 (h.imp fun h => h.symm)
theorem Full.rev {N : Nat} {p : List Nat} (h : Full N p) : Ord N p.reverse ∧ p.reverse.length = N := ⟨⟨nodup_rev h.ord.nd, fun v hv => h.ord.lt v (List.mem_reverse.1 hv)⟩, by rw [List.length_reverse, h.len]⟩
theorem adm_iff {F : Nat → Nat} {N : Nat} {p : List Nat} (h : Full N p) : AdmR F p.reverse ↔ Adm F N p := by
 rw [AdmR_iff F _ h.rev.1.nd]
 constructor
 ·intro hh v hv u hu
  have hm : v ∈ p.reverse := List.mem_reverse.2 (h.mem hv)
  have := hh v hm u hu
  rw [bk_idx _ _ _ h.rev.1.nd hm, List.reverse_reverse] at this
  simpa using this
 ·intro hh v hv u hu
  rw [bk_idx _ _ _ h.rev.1.nd hv, List.reverse_reverse]
  simpa using hh v (h.rev.1.lt v hv) u hu
structure Okk (N : Nat) (A : List (Nat × Nat)) : Prop where
 lt : ∀ a ∈ A, a.1 < N ∧ a.2 < N
theorem countP_range (A : List (Nat × Nat)) (q : Nat × Nat → Bool) : (List.range A.length).countP (fun i => q (arc A i)) = A.countP q := by
 have : A = (List.range A.length).map (arc A) := by
  refine List.ext_getElem (by simp) fun i h1 h2 => ?_
  simp [arc, List.getD, h1]
 conv => rhs; rw [this, List.countP_map]
 rfl
theorem cost_back {N : Nat} {A : List (Nat × Nat)} {p : List Nat} (hA : Okk N A) (h : Full N p) : costR A p.reverse = (backL A p).length := by
 rw [costR_eq A _ h.rev.1.nd, backL, ← List.countP_eq_length_filter]
 refine Eq.trans ?_ (countP_range A fun a => decide (p.idxOf a.2 < p.idxOf a.1)).symm
 refine List.countP_congr fun a ha => ?_
 have hm : a.1 ∈ p.reverse := List.mem_reverse.2 (h.mem (hA.lt a ha).1)
 rw [bk_idx _ _ _ h.rev.1.nd hm, List.reverse_reverse]
def bitsOf (s : Nat) : List Nat := (List.range 8).filter s.testBit
def sumB (c : Nat → Nat → Int) (v s : Nat) : Int := ((bitsOf s).map (c v)).sum
def dpV (c : Nat → Nat → Int) (F : Nat → Nat) (s v : Nat) (T : List Int) : List Int :=
 if s.testBit v = true ∧ dif (F v) (rest s v) = 0 then T.set s (min (T.getD s 0) (T.getD (rest s v) 0 + sumB c v (rest s v))) else T
def dpS (N : Nat) (c : Nat → Nat → Int) (F : Nat → Nat) (s : Nat) (T : List Int) : List Int := foldN (dpV c F s) N 0 (T.set s 1048576)
def dpT (N : Nat) (c : Nat → Nat → Int) (F : Nat → Nat) : List Int := foldN (dpS N c F) (2 ^ N) 1 (List.replicate (2 ^ N) 0)
def leastV (N : Nat) (c : Nat → Nat → Int) (F : Nat → Nat) : Int := (dpT N c F).getD (2 ^ N - 1) 0
def cntA (A : List (Nat × Nat)) (v u : Nat) : Int := (A.countP fun a => decide (a.1 = v) && decide (a.2 = u) && decide (a.1 ≠ a.2) : Nat)
theorem sum_bits (f : Nat → Int) (p : Nat → Bool) : ∀ n, (((List.range n).filter p).map f).sum = ((List.range n).map fun u => if p u = true then f u else 0).sum
 | 0 => rfl
 | n + 1 => by
  rw [List.range_succ, List.filter_append, List.map_append, List.map_append, List.sum_append, List.sum_append, sum_bits f p n]
  congr 1
  by_cases h : p n = true
  ·simp [h]
  ·simp [h]
theorem sum_one (v b : Nat) (q : Nat → Bool) : ∀ n, ((List.range n).map fun u => if q u = true then (if b = u then (1 : Int) else 0) else 0).sum = if b < n ∧ q b = true then 1 else 0
 | 0 => by simp
 | n + 1 => by
  rw [List.range_succ, List.map_append, List.sum_append, sum_one v b q n]
  simp only [List.map_cons, List.map_nil, List.sum_cons, List.sum_nil]
  by_cases e : b = n
  ·subst e
   by_cases h : q b = true <;> simp [h]
  ·have h1 : (b < n + 1) = (b < n) := by
    apply propext
    omega
   simp only [h1, if_neg e, ite_self]
   omega
theorem sum_add (f g : Nat → Int) : ∀ l : List Nat, (l.map fun u => f u + g u).sum = (l.map f).sum + (l.map g).sum
 | [] => rfl
 | a :: l => by
  simp only [List.map_cons, List.sum_cons, sum_add f g l]
  omega
theorem cntA_cons (a : Nat × Nat) (A : List (Nat × Nat)) (v u : Nat) : cntA (a :: A) v u = cntA A v u + if (decide (a.1 = v) && decide (a.1 ≠ a.2)) = true then (if a.2 = u then 1 else 0) else 0 := by
 simp only [cntA, List.countP_cons, Int.natCast_add]
 congr 1
 by_cases h2 : a.2 = u
 ·cases decide (a.1 = v) <;> cases decide (a.1 ≠ a.2) <;> simp [h2]
 ·cases decide (a.1 = v) <;> cases decide (a.1 ≠ a.2) <;> simp [h2]
theorem sumB_out {N : Nat} {A : List (Nat × Nat)} {v s : Nat} (hN : N ≤ 8) (hA : Okk N A) (hs : s.testBit v = false) : sumB (cntA A) v s = (outC A v s.testBit : Nat) := by
 rw [sumB, bitsOf, sum_bits]
 induction A with
 | nil =>
  have : ∀ n, ((List.range n).map fun u => if s.testBit u = true then cntA [] v u else 0).sum = 0 := fun n => by
   induction n with
   | zero => rfl
   | succ n ih =>
    rw [List.range_succ, List.map_append, List.sum_append, ih]
    simp [cntA]
  rw [this]; rfl
 | cons a A ih =>
  have ih := ih ⟨fun x hx => hA.lt x (List.mem_cons_of_mem _ hx)⟩
  have ha := hA.lt a (List.mem_cons_self ..)
  have e1 : (fun u => if s.testBit u = true then cntA (a :: A) v u else 0) = fun u => (if s.testBit u = true then cntA A v u else 0) + (if (s.testBit u && (decide (a.1 = v) && decide (a.1 ≠ a.2))) = true then (if a.2 = u then 1 else 0) else 0) := by
   funext u
   rw [cntA_cons]
   cases s.testBit u with
   | false => rfl
   | true => simp only [if_true, Bool.true_and]
  rw [e1, sum_add, ih, sum_one v]
  simp only [outC, List.countP_cons]
  by_cases h1 : a.1 = v
  ·by_cases h2 : s.testBit a.2 = true
   ·have h3 : a.1 ≠ a.2 := fun e => by rw [← e, h1, hs] at h2; exact nomatch h2
    have h4 : a.2 < 8 := by omega
    simp only [h1, h2, decide_true, Bool.true_and, if_true, Int.natCast_add]
    rw [if_pos (by simpa [h1, h4] using h3)]
    rfl
   ·simp [h1, h2]
  ·simp [h1]
structure Cell (N : Nat) (A : List (Nat × Nat)) (F : Nat → Nat) (s : Nat) (x : Int) : Prop where
 ge : ∀ r, Ord N r → mask r = s → AdmR F r → x ≤ (costR A r : Int)
 ex : x < 1048576 → ∃ r, Ord N r ∧ mask r = s ∧ AdmR F r ∧ (costR A r : Int) = x
theorem Ord.cons {N : Nat} {r : List Nat} {v : Nat} (h : Ord N r) (hv : v < N) (hm : v ∉ r) : Ord N (v :: r) :=
 ⟨List.nodup_cons.2 ⟨hm, h.nd⟩, fun a ha => by
  rcases List.mem_cons.1 ha with rfl | ha
  ·exact hv
  ·exact h.lt a ha⟩
theorem Ord.tail {N : Nat} {r : List Nat} {v : Nat} (h : Ord N (v :: r)) : Ord N r ∧ v < N ∧ v ∉ r :=
 ⟨⟨(List.nodup_cons.1 h.nd).2, fun a ha => h.lt a (List.mem_cons_of_mem _ ha)⟩, h.lt v (List.mem_cons_self ..), (List.nodup_cons.1 h.nd).1⟩
theorem cost_cons {N : Nat} {A : List (Nat × Nat)} {r : List Nat} {v : Nat} (hN : N ≤ 8) (hA : Okk N A) (hm : v ∉ r) : (costR A (v :: r) : Int) = costR A r + sumB (cntA A) v (mask r) := by
 rw [sumB_out hN hA (by rw [mask_bit]; simpa using hm), costR, Int.natCast_add]
 have : (mask r).testBit = fun u => decide (u ∈ r) := funext fun u => mask_bit u r
 rw [this]
theorem adm_cons {F : Nat → Nat} {r : List Nat} {v : Nat} : AdmR F (v :: r) ↔ dif (F v) (mask r) = 0 ∧ AdmR F r := by
 rw [AdmR, dif_zero]
 constructor
 ·rintro ⟨h1, h2⟩
  exact ⟨fun u hu => by rw [mask_bit]; simpa using h1 u hu, h2⟩
 ·rintro ⟨h1, h2⟩
  exact ⟨fun u hu => by have := h1 u hu; rw [mask_bit] at this; simpa using this, h2⟩
theorem bit_mem {r : List Nat} {s v : Nat} (h : mask (v :: r) = s) : s.testBit v = true := by rw [← h, mask_bit]; simp
theorem dpS_ok {N : Nat} {A : List (Nat × Nat)} {F : Nat → Nat} {s : Nat} {T : List Int} (hN : N ≤ 8) (hA : Okk N A) (h0 : 0 < s) (hs : s < T.length) (hT : ∀ s', s' < s → Cell N A F s' (T.getD s' 0)) :
  (dpS N (cntA A) F s T).length = T.length ∧ (∀ s', s' ≠ s → (dpS N (cntA A) F s T).getD s' 0 = T.getD s' 0) ∧ Cell N A F s ((dpS N (cntA A) F s T).getD s 0) := by
 let I : Nat → List Int → Prop := fun j U => U.length = T.length ∧ (∀ s', s' ≠ s → U.getD s' 0 = T.getD s' 0) ∧
  (∀ v r, v < j → Ord N (v :: r) → mask (v :: r) = s → AdmR F (v :: r) → U.getD s 0 ≤ (costR A (v :: r) : Int)) ∧
  (U.getD s 0 < 1048576 → ∃ r, Ord N r ∧ mask r = s ∧ AdmR F r ∧ (costR A r : Int) = U.getD s 0)
 have hset : ∀ (U : List Int) (x : Int), s < U.length → (U.set s x).getD s 0 = x := fun U x h => by simp [List.getD, h]
 have hne : ∀ (U : List Int) (x : Int) (s' : Nat), s' ≠ s → (U.set s x).getD s' 0 = U.getD s' 0 := fun U x s' h => by
  rw [List.getD_eq_getElem?_getD, List.getElem?_set_ne (fun e => h e.symm), List.getD_eq_getElem?_getD]
 have hI : I N (dpS N (cntA A) F s T) := by
  refine fold_inv (I := I) ?_ N 0 _ (by omega) ⟨by simp, fun s' h => hne _ _ _ h, fun v r h => absurd h (by omega), fun h => ?_⟩
  ·intro v U hv hU
   obtain ⟨u1, u2, u3, u4⟩ := hU
   have key : ∀ r, Ord N (v :: r) → mask (v :: r) = s → mask r = rest s v := fun r hr hm => by rw [← hm, rest_mask hr.tail.2.2]
   unfold dpV
   by_cases hc : s.testBit v = true ∧ dif (F v) (rest s v) = 0
   ·rw [if_pos hc]
    have hlt := rest_lt hc.1
    have hcell := hT (rest s v) hlt
    have hold := u2 (rest s v) (by omega)
    rw [hold]
    refine ⟨by rw [List.length_set, u1], fun s' h => by rw [hne _ _ _ h, u2 s' h], fun w r hw hr hm ha => ?_, fun hx => ?_⟩
    ·rw [hset _ _ (by omega)]
     by_cases e : w = v
     ·subst e
      have h1 := key r hr hm
      have h2 := hcell.ge r hr.tail.1 h1 ha.2
      rw [cost_cons hN hA hr.tail.2.2, h1]
      omega
     ·have := u3 w r (by omega) hr hm ha
      omega
    ·rw [hset _ _ (by omega)] at hx ⊢
     by_cases hle : U.getD s 0 ≤ T.getD (rest s v) 0 + sumB (cntA A) v (rest s v)
     ·obtain ⟨r, hr1, hr2, hr3, hr4⟩ := u4 (by omega)
      exact ⟨r, hr1, hr2, hr3, by omega⟩
     ·have hb : (rest s v).testBit v = false := by rw [rest_bit]; simp
      have hsb := sumB_out (s := rest s v) hN hA hb
      obtain ⟨r, hr1, hr2, hr3, hr4⟩ := hcell.ex (by omega)
      have hvr : v ∉ r := fun h => by
       have := mask_bit v r
       rw [hr2, hb] at this
       simp [h] at this
      refine ⟨v :: r, hr1.cons hv hvr, mask_rest hc.1 hr2, adm_cons.2 ⟨by rw [hr2]; exact hc.2, hr3⟩, ?_⟩
      rw [cost_cons hN hA hvr, hr4, hr2]
      omega
   ·rw [if_neg hc]
    refine ⟨u1, u2, fun w r hw hr hm ha => ?_, u4⟩
    by_cases e : w = v
    ·subst e
     refine absurd ⟨bit_mem hm, ?_⟩ hc
     have := (adm_cons.1 ha).1
     rwa [key r hr hm] at this
    ·exact u3 w r (by omega) hr hm ha
  ·rw [hset _ _ hs] at h
   omega
 obtain ⟨i1, i2, i3, i4⟩ := hI
 refine ⟨i1, i2, fun r hr hm ha => ?_, i4⟩
 cases r with
 | nil => rw [mask] at hm; omega
 | cons v r => exact i3 v r hr.tail.2.1 hr hm ha
theorem dpT_ok {N : Nat} {A : List (Nat × Nat)} {F : Nat → Nat} (hN : N ≤ 8) (hA : Okk N A) : ∀ s, s < 2 ^ N → Cell N A F s ((dpT N (cntA A) F).getD s 0) := by
 let I : Nat → List Int → Prop := fun j T => 1 ≤ j ∧ T.length = 2 ^ N ∧ ∀ s, s < j → Cell N A F s (T.getD s 0)
 have hp := Nat.two_pow_pos N
 have hI : I (2 ^ N) (dpT N (cntA A) F) := by
  refine fold_inv (I := I) ?_ (2 ^ N - 1) 1 _ (by omega) ⟨Nat.le_refl _, by simp, fun s hs => ?_⟩
  ·intro s T hs hT
   obtain ⟨h0, hT⟩ := hT
   obtain ⟨d1, d2, d3⟩ := dpS_ok hN hA (by omega) (by rw [hT.1]; exact hs) hT.2
   refine ⟨by omega, by rw [d1, hT.1], fun s' h' => ?_⟩
   by_cases e : s' = s
   ·subst e; exact d3
   ·rw [d2 s' e]; exact hT.2 s' (by omega)
  ·have : s = 0 := by omega
   subst this
   have hz : (List.replicate (2 ^ N) (0 : Int)).getD 0 0 = 0 := by simp [List.getD, hp]
   rw [hz]
   refine ⟨fun r _ _ _ => by omega, fun _ => ⟨[], Ord.nil N, rfl, trivial, rfl⟩⟩
 exact hI.2.2
theorem mask_full {N : Nat} {r : List Nat} (h : Ord N r) : mask r = 2 ^ N - 1 ↔ r.length = N := by
 constructor
 ·intro hm
  have := len_sub (List.range N) r List.nodup_range fun v hv => by
   have hb := mask_bit v r
   rw [hm, Nat.testBit_two_pow_sub_one, decide_eq_true (List.mem_range.1 hv)] at hb
   simpa using hb.symm
  have := h.len
  simp only [List.length_range] at *
  omega
 ·intro hl
  refine Nat.eq_of_testBit_eq fun u => ?_
  rw [mask_bit, Nat.testBit_two_pow_sub_one]
  by_cases hu : u < N
  ·rw [decide_eq_true hu, decide_eq_true ((⟨h, hl⟩ : Full N r).mem hu)]
  ·rw [decide_eq_false hu, decide_eq_false fun hm => hu (h.lt u hm)]
theorem leastV_ok {N : Nat} {A : List (Nat × Nat)} {F : Nat → Nat} (hN : N ≤ 8) (hA : Okk N A) :
  (∀ p, Full N p → Adm F N p → leastV N (cntA A) F ≤ ((backL A p).length : Int)) ∧ (leastV N (cntA A) F < 1048576 → ∃ p, Full N p ∧ Adm F N p ∧ ((backL A p).length : Int) = leastV N (cntA A) F) := by
 have hp := Nat.two_pow_pos N
 have hc := dpT_ok (F := F) hN hA (2 ^ N - 1) (by omega)
 refine ⟨fun p hf ha => ?_, fun hx => ?_⟩
 ·rw [← cost_back hA hf]
  exact hc.ge _ hf.rev.1 ((mask_full hf.rev.1).2 hf.rev.2) ((adm_iff hf).2 ha)
 ·obtain ⟨r, h1, h2, h3, h4⟩ := hc.ex hx
  have hl := (mask_full h1).1 h2
  have hf : Full N r.reverse := ⟨⟨nodup_rev h1.nd, fun v hv => h1.lt v (List.mem_reverse.1 hv)⟩, by rw [List.length_reverse, hl]⟩
  refine ⟨r.reverse, hf, (adm_iff hf).1 (by rw [List.reverse_reverse]; exact h3), ?_⟩
  rw [← cost_back hA hf, List.reverse_reverse]
  exact h4
def setF (F : List Nat) (a b : Nat) : List Nat := F.set a (F.getD a 0 ||| 1 <<< b)
def turnD (N : Nat) (A : List (Nat × Nat)) (size : Int) (i : Nat) (z : List Nat × List Nat) : List Nat × List Nat :=
 if (arc A i).1 = (arc A i).2 then z else
  if leastV N (cntA A) (fun v => (setF z.1 (arc A i).1 (arc A i).2).getD v 0) = size then (setF z.1 (arc A i).1 (arc A i).2, z.2 ++ [i])
  else (setF z.1 (arc A i).2 (arc A i).1, z.2)
def sizeD (N : Nat) (A : List (Nat × Nat)) : Int := leastV N (cntA A) fun v => (List.replicate N (0 : Nat)).getD v 0
def leastD (N : Nat) (A : List (Nat × Nat)) : List Nat := (foldN (turnD N A (sizeD N A)) A.length 0 (List.replicate N 0, [])).2
theorem setF_get {F : List Nat} {a b v : Nat} (ha : a < F.length) (u : Nat) : ((setF F a b).getD v 0).testBit u = ((F.getD v 0).testBit u || (decide (v = a) && decide (b = u))) := by
 unfold setF
 by_cases e : v = a
 ·subst e
  have : (F.set v (F.getD v 0 ||| 1 <<< b)).getD v 0 = F.getD v 0 ||| 1 <<< b := by simp [List.getD, ha]
  rw [this, Nat.testBit_or, one_bit]
  simp
 ·have : (F.set a (F.getD a 0 ||| 1 <<< b)).getD v 0 = F.getD v 0 := by
   rw [List.getD_eq_getElem?_getD, List.getElem?_set_ne (fun x => e x.symm), List.getD_eq_getElem?_getD]
  rw [this]
  simp [e]
theorem adm_set {N : Nat} {F : List Nat} {a b : Nat} {p : List Nat} (hF : F.length = N) (ha : a < N) : Adm (fun v => (setF F a b).getD v 0) N p ↔ Adm (fun v => F.getD v 0) N p ∧ p.idxOf b < p.idxOf a := by
 constructor
 ·intro h
  refine ⟨fun v hv u hu => h v hv u ?_, h a ha b ?_⟩
  ·show ((setF F a b).getD v 0).testBit u = true
   rw [setF_get (by omega), hu]; rfl
  ·show ((setF F a b).getD a 0).testBit b = true
   rw [setF_get (by omega)]
   simp
 ·rintro ⟨h1, h2⟩ v hv u hu
  have hu : ((setF F a b).getD v 0).testBit u = true := hu
  rw [setF_get (by omega)] at hu
  by_cases e : (F.getD v 0).testBit u = true
  ·exact h1 v hv u e
  ·have : (decide (v = a) && decide (b = u)) = true := by
    rw [Bool.or_eq_true] at hu
    rcases hu with h | h
    ·exact absurd h e
    ·exact h
   simp only [Bool.and_eq_true, decide_eq_true_eq] at this
   obtain ⟨rfl, rfl⟩ := this
   exact h2
theorem idx_inj {p : List Nat} {a b : Nat} (ha : a ∈ p) (h : p.idxOf a = p.idxOf b) : a = b := by
 have h1 := List.idxOf_lt_length_iff.2 ha
 have h2 : p.idxOf b < p.length := by omega
 have e1 := List.getElem_idxOf h1
 have e2 := List.getElem_idxOf h2
 rw [← e1, ← e2]
 congr 1
theorem lex_greedy : ∀ X Y : List Nat, X.Pairwise (· < ·) → Y.Pairwise (· < ·) → X.length = Y.length → (∀ b, (∀ i, i < b → (i ∈ X ↔ i ∈ Y)) → b ∈ X → b ∈ Y) → lexL X Y = false
 | [], _, _, _, _, _ => by simp [lexL]
 | x :: xs, [], _, _, h, _ => by simp at h
 | x :: xs, y :: ys, hX, hY, hl, h => by
  obtain ⟨hx, hX'⟩ := List.pairwise_cons.1 hX
  obtain ⟨hy, hY'⟩ := List.pairwise_cons.1 hY
  simp only [lexL]
  by_cases e : x = y
  ·subst e
   rw [if_pos rfl]
   refine lex_greedy xs ys hX' hY' (by simpa using hl) fun b hb hbx => ?_
   have hxb := hx b hbx
   have := h b (fun i hi => by
    by_cases ei : i = x
    ·subst ei; simp
    ·simp only [List.mem_cons, ei, false_or]; exact hb i hi) (List.mem_cons_of_mem _ hbx)
   rcases List.mem_cons.1 this with h' | h'
   ·omega
   ·exact h'
  ·rw [if_neg e, decide_eq_false_iff_not]
   intro hlt
   have := h x (fun i hi => by
    constructor
    ·intro hm
     rcases List.mem_cons.1 hm with h' | h'
     ·omega
     ·have := hx i h'; omega
    ·intro hm
     rcases List.mem_cons.1 hm with h' | h'
     ·omega
     ·have := hy i h'; omega) (List.mem_cons_self ..)
   rcases List.mem_cons.1 this with h' | h'
   ·exact e h'
   ·have := hy x h'; omega
theorem sorted_ext {X Y : List Nat} (hX : X.Pairwise (· < ·)) (hY : Y.Pairwise (· < ·)) (h : ∀ i, i ∈ X ↔ i ∈ Y) : X = Y := by
 have nd : ∀ Z : List Nat, Z.Pairwise (· < ·) → Z.Nodup := fun Z hZ => hZ.imp fun h => by omega
 have h1 := len_sub X Y (nd X hX) fun v hv => (h v).1 hv
 have h2 := len_sub Y X (nd Y hY) fun v hv => (h v).2 hv
 exact lex_tri X Y (by omega) (lex_greedy X Y hX hY (by omega) fun b _ hb => (h b).1 hb) (lex_greedy Y X hY hX (by omega) fun b _ hb => (h b).2 hb)
theorem back_sorted (A : List (Nat × Nat)) (p : List Nat) : (backL A p).Pairwise (· < ·) := List.pairwise_lt_range.filter _
theorem back_len (A : List (Nat × Nat)) (p : List Nat) : (backL A p).length ≤ A.length := by
 have := List.length_filter_le (isBk A p) (List.range A.length)
 simpa [backL] using this
theorem arc_lt {N : Nat} {A : List (Nat × Nat)} {i : Nat} (hA : Okk N A) (hi : i < A.length) : (arc A i).1 < N ∧ (arc A i).2 < N := by
 have : arc A i = A[i] := by simp [arc, List.getD, hi]
 rw [this]
 exact hA.lt _ (List.getElem_mem hi)
structure GI (N : Nat) (A : List (Nat × Nat)) (size : Int) (i : Nat) (z : List Nat × List Nat) : Prop where
 len : z.1.length = N
 adm : ∀ p, Full N p → (Adm (fun v => z.1.getD v 0) N p ↔ ∀ j, j < i → (isBk A p j = true ↔ j ∈ z.2))
 ex : ∃ p, Full N p ∧ Adm (fun v => z.1.getD v 0) N p ∧ ((backL A p).length : Int) = size
 gr : ∀ p, Full N p → ((backL A p).length : Int) = size → ∀ b, b < i → (∀ j, j < b → (isBk A p j = true ↔ j ∈ z.2)) → isBk A p b = true → b ∈ z.2
 lt : ∀ j ∈ z.2, j < i
 srt : z.2.Pairwise (· < ·)
theorem isBk_loop {A : List (Nat × Nat)} {i : Nat} (p : List Nat) (h : (arc A i).1 = (arc A i).2) : isBk A p i = false := by simp [isBk, h]
theorem sizeD_ok {N : Nat} {A : List (Nat × Nat)} (hN : N ≤ 8) (hA : Okk N A) (hm : A.length < 1048576) : (∃ p, Full N p ∧ ((backL A p).length : Int) = sizeD N A) ∧ ∀ p, Full N p → sizeD N A ≤ ((backL A p).length : Int) := by
 have h0 : ∀ p, Adm (fun v => (List.replicate N (0 : Nat)).getD v 0) N p := fun p v hv u hu => by
  have : (List.replicate N (0 : Nat)).getD v 0 = 0 := by simp [List.getD, hv]
  have hu : ((List.replicate N (0 : Nat)).getD v 0).testBit u = true := hu
  rw [this, Nat.zero_testBit] at hu
  exact nomatch hu
 obtain ⟨h1, h2⟩ := leastV_ok (F := fun v => (List.replicate N (0 : Nat)).getD v 0) hN hA
 refine ⟨?_, fun p hp => h1 p hp (h0 p)⟩
 obtain ⟨q, hq, _⟩ := Ord.ext N [] (Ord.nil N) (by simp)
 have := h1 q hq (h0 q)
 have := back_len A q
 obtain ⟨p, hp, _, he⟩ := h2 (by omega)
 exact ⟨p, hp, he⟩
theorem GI.next {N : Nat} {A : List (Nat × Nat)} {i : Nat} {z : List Nat × List Nat} (hN : N ≤ 8) (hA : Okk N A) (hm : A.length < 1048576) (hi : i < A.length) (h : GI N A (sizeD N A) i z) : GI N A (sizeD N A) (i + 1) (turnD N A (sizeD N A) i z) := by
 obtain ⟨F, out⟩ := z
 obtain ⟨hl, hadm, hex, hgr, hlt, hsr⟩ := h
 obtain ⟨a1, a2⟩ := arc_lt hA hi
 have hni : i ∉ out := fun hx => absurd (hlt i hx) (by omega)
 have hsz := sizeD_ok hN hA hm
 unfold turnD
 by_cases hloop : (arc A i).1 = (arc A i).2
 ·rw [if_pos hloop]
  have hb := fun p => isBk_loop p hloop
  refine ⟨hl, fun p hp => ?_, hex, fun p hp hs b hb' hj hk => ?_, fun j hj => Nat.lt_succ_of_lt (hlt j hj), hsr⟩
  ·rw [hadm p hp]
   constructor
   ·intro hh j hj
    by_cases e : j = i
    ·subst e; rw [hb p]; simp [hni]
    ·exact hh j (by omega)
   ·intro hh j hj
    exact hh j (by omega)
  ·by_cases e : b = i
   ·subst e; rw [hb p] at hk; exact nomatch hk
   ·exact hgr p hp hs b (by omega) hj hk
 ·rw [if_neg hloop]
  obtain ⟨l1, l2⟩ := leastV_ok (F := fun v => (setF F (arc A i).1 (arc A i).2).getD v 0) hN hA
  by_cases hc : leastV N (cntA A) (fun v => (setF F (arc A i).1 (arc A i).2).getD v 0) = sizeD N A
  ·rw [if_pos hc]
   have hsmall : sizeD N A < 1048576 := by
    obtain ⟨p, hp, he⟩ := hsz.1
    have := back_len A p
    omega
   obtain ⟨p, hp, hpa, hpe⟩ := l2 (by omega)
   refine ⟨by simp [setF, hl], fun q hq => ?_, ⟨p, hp, hpa, by omega⟩, fun q hq hs b hb' hj hk => ?_, fun j hj => ?_, ?_⟩
   ·rw [adm_set hl a1, hadm q hq]
    constructor
    ·rintro ⟨h1, h2⟩ j hj
     by_cases e : j = i
     ·subst e
      simp only [isBk, decide_eq_true_eq, List.mem_append, List.mem_singleton, or_true, iff_true]
      exact h2
     ·rw [h1 j (by omega)]
      simp [e]
    ·intro hh
     refine ⟨fun j hj => ?_, ?_⟩
     ·rw [hh j (by omega)]
      have : j ≠ i := by omega
      simp [this]
     ·have := (hh i (by omega)).2 (by simp)
      simpa [isBk] using this
   ·by_cases e : b = i
    ·subst e; simp
    ·refine List.mem_append_left _ (hgr q hq hs b (by omega) (fun j hj' => ?_) hk)
     rw [hj j hj']
     have : j ≠ i := by omega
     simp [this]
   ·rcases List.mem_append.1 hj with h' | h'
    ·have := hlt j h'; omega
    ·rw [List.mem_singleton] at h'; omega
   ·refine List.pairwise_append.2 ⟨hsr, by simp, fun x hx y hy => ?_⟩
    rw [List.mem_singleton] at hy
    have := hlt x hx
    omega
  ·rw [if_neg hc]
   have hno : ∀ p, Full N p → Adm (fun v => F.getD v 0) N p → ((backL A p).length : Int) = sizeD N A → isBk A p i = false := fun p hp ha hs => by
    cases hb : isBk A p i with
    | false => rfl
    | true =>
     have h1 := l1 p hp ((adm_set hl a1).2 ⟨ha, by simpa [isBk] using hb⟩)
     have hle := back_len A p
     obtain ⟨q, hq, _, hqe⟩ := l2 (by omega)
     have := hsz.2 q hq
     omega
   have hrev : ∀ p, Full N p → (isBk A p i = false ↔ p.idxOf (arc A i).1 < p.idxOf (arc A i).2) := fun p hp => by
    simp only [isBk, decide_eq_false_iff_not]
    constructor
    ·intro h
     apply Classical.byContradiction
     intro h'
     exact hloop (idx_inj (hp.mem a1) (by omega))
    ·omega
   refine ⟨by simp [setF, hl], fun q hq => ?_, ?_, fun q hq hs b hb' hj hk => ?_, fun j hj => Nat.lt_succ_of_lt (hlt j hj), hsr⟩
   ·rw [adm_set hl a2, hadm q hq, ← hrev q hq]
    constructor
    ·rintro ⟨h1, h2⟩ j hj
     by_cases e : j = i
     ·subst e; rw [h2]; simp [hni]
     ·exact h1 j (by omega)
    ·intro hh
     refine ⟨fun j hj => hh j (by omega), ?_⟩
     have := hh i (by omega)
     cases hb : isBk A q i with
     | false => rfl
     | true => exact absurd (this.1 hb) hni
   ·obtain ⟨p, hp, hpa, hpe⟩ := hex
    exact ⟨p, hp, (adm_set hl a2).2 ⟨hpa, (hrev p hp).1 (hno p hp hpa hpe)⟩, hpe⟩
   ·by_cases e : b = i
    ·subst e
     rw [hno q hq ((hadm q hq).2 hj) hs] at hk
     exact nomatch hk
    ·exact hgr q hq hs b (by omega) hj hk
theorem GI.start {N : Nat} {A : List (Nat × Nat)} (hN : N ≤ 8) (hA : Okk N A) (hm : A.length < 1048576) : GI N A (sizeD N A) 0 (List.replicate N 0, []) := by
 have h0 : ∀ p, Adm (fun v => (List.replicate N (0 : Nat)).getD v 0) N p := fun p v hv u hu => by
  have : (List.replicate N (0 : Nat)).getD v 0 = 0 := by simp [List.getD, hv]
  have hu : ((List.replicate N (0 : Nat)).getD v 0).testBit u = true := hu
  rw [this, Nat.zero_testBit] at hu
  exact nomatch hu
 obtain ⟨p, hp, he⟩ := (sizeD_ok hN hA hm).1
 exact ⟨by simp, fun q _ => ⟨fun _ j hj => absurd hj (by omega), fun _ => h0 q⟩, ⟨p, hp, h0 p, he⟩, fun _ _ _ b hb => absurd hb (by omega), fun _ h => (nomatch h), List.Pairwise.nil⟩
theorem least_same {N : Nat} {A : List (Nat × Nat)} (hN : N ≤ 8) (hA : Okk N A) (hm : A.length < 1048576) : leastD N A = srch N A N [] := by
 have hG : GI N A (sizeD N A) A.length (foldN (turnD N A (sizeD N A)) A.length 0 (List.replicate N 0, [])) :=
  fold_inv (I := fun i z => GI N A (sizeD N A) i z) (fun i z hi h => h.next hN hA hm hi) A.length 0 _ (by omega) (GI.start hN hA hm)
 obtain ⟨hl, hadm, ⟨p, hp, hpa, hpe⟩, hgr, hlt, hsr⟩ := hG
 have hR := srch_spec (A := A) N [] (Ord.nil N) (by simp)
 have hsz := sizeD_ok hN hA hm
 have hback : backL A p = leastD N A := by
  have hiff := (hadm p hp).1 hpa
  refine sorted_ext (back_sorted A p) hsr fun i => ?_
  rw [mem_back]
  constructor
  ·rintro ⟨h1, h2⟩
   exact (hiff i h1).1 h2
  ·intro h
   exact ⟨hlt i h, (hiff i (hlt i h)).2 h⟩
 obtain ⟨⟨q, hq, _, hqe⟩, hle⟩ := hR
 refine less_tri _ _ ?_ ?_
 ·have := hle p hp (List.nil_prefix ..)
  rwa [hback] at this
 ·rw [← hqe, ← hback]
  have h1 := hsz.2 q hq
  simp only [lessL]
  by_cases e : (backL A q).length = (backL A p).length
  ·rw [if_pos e]
   refine lex_greedy _ _ (back_sorted A q) (back_sorted A p) e fun b hb hbq => ?_
   have hbq := mem_back.1 hbq
   rw [hback]
   refine hgr q hq (by omega) b hbq.1 (fun j hj => ?_) hbq.2
   have := hb j hj
   rw [hback, mem_back] at this
   constructor
   ·intro h; exact this.1 ⟨by omega, h⟩
   ·intro h; exact (this.2 h).2
  ·rw [if_neg e, decide_eq_false_iff_not]
   omega
end Lo
end Go.Proofs.YtinaaabmmjpijaaDoor.rv
