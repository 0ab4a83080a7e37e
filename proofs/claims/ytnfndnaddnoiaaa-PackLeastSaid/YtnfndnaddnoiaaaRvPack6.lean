/-
  Packing: the laws without the reference: boxes on shelves are apart; no candidate is smaller.
-/
import Derived.Test.YtnfndnaddnoiaaaRvPack5
namespace Go.Proofs.Ytnfndnaddnoiaaa.rv
open Go.RV

def shelO (w g : Int) : Bool → Int → Int → Int → List Pt → List Bx
  | _, _, _, _, [] => []
  | f, x, y, low, p :: ps => if (!f && decide (w < x + p.1)) = true then (0, low + g, p.1, low + g + p.2) :: shelO w g false (p.1 + g) (low + g) (max (low + g) (low + g + p.2)) ps
    else (x, y, x + p.1, y + p.2) :: shelO w g false (x + p.1 + g) y (max low (y + p.2)) ps
theorem shelF_out (w g : Int) : ∀ (l : List Pt) (f : Bool) (x y low : Int) (acc : List Bx), (shelF w g f x y low acc l).2.2.2 = acc ++ shelO w g f x y low l
  | [], f, x, y, low, acc => by simp [shelF, shelO]
  | p :: ps, f, x, y, low, acc => by
    unfold shelF shelO
    split
    · rw [shelF_out w g ps]; simp
    · rw [shelF_out w g ps]; simp
theorem shel_out (w g : Int) (l : List Pt) : shel w g l = shelO w g true 0 0 0 l := by simp [shel, shelF_out]

def apart (g : Int) (a b : Bx) : Prop := a.2.2.1 + g ≤ b.1 ∨ a.2.2.2 + g ≤ b.2.1
theorem szOk_cons {p : Pt} {ps : List Pt} (h : szOk (p :: ps)) : ((0 ≤ p.1 ∧ p.1 ≤ 1048576) ∧ 0 ≤ p.2 ∧ p.2 ≤ 1048576) ∧ szOk ps := ⟨h p List.mem_cons_self, fun q hq => h q (List.mem_cons_of_mem _ hq)⟩

theorem shelO_after (w g : Int) (hg : 0 ≤ g) : ∀ (l : List Pt) (f : Bool) (x y low : Int), szOk l → ∀ b ∈ shelO w g f x y low l, x ≤ b.1 ∨ low + g ≤ b.2.1
  | [], f, x, y, low, _, b, hb => by simp [shelO] at hb
  | p :: ps, f, x, y, low, h, b, hb => by
    obtain ⟨h1, h2⟩ := szOk_cons h
    unfold shelO at hb
    split at hb
    · rcases List.mem_cons.1 hb with rfl | hb
      · right; exact Int.le_refl _
      · have h3 := shelO_after w g hg ps _ _ _ _ h2 b hb
        have h4 : ∀ (l : List Pt) (f : Bool) (x y low : Int), szOk l → ∀ b ∈ shelO w g f x y low l, b.2.1 = y ∨ low + g ≤ b.2.1 := by
          intro l
          induction l with
          | nil => intro f x y low _ b hb; simp [shelO] at hb
          | cons q qs ih =>
            intro f x y low hs b hb
            obtain ⟨h5, h6⟩ := szOk_cons hs
            unfold shelO at hb
            split at hb
            · rcases List.mem_cons.1 hb with rfl | hb
              · right; exact Int.le_refl _
              · rcases ih _ _ _ _ h6 b hb with h7 | h7 <;> (right; omega)
            · rcases List.mem_cons.1 hb with rfl | hb
              · left; rfl
              · rcases ih _ _ _ _ h6 b hb with h7 | h7
                · left; exact h7
                · right; omega
        have h5 := h4 ps _ _ _ _ h2 b hb
        right; omega
    · rcases List.mem_cons.1 hb with rfl | hb
      · left; exact Int.le_refl _
      · rcases shelO_after w g hg ps _ _ _ _ h2 b hb with h3 | h3
        · left; omega
        · right; omega
theorem shelO_pair (w g : Int) (hg : 0 ≤ g) : ∀ (l : List Pt) (f : Bool) (x y low : Int), szOk l → (shelO w g f x y low l).Pairwise (apart g)
  | [], f, x, y, low, _ => by simp [shelO]
  | p :: ps, f, x, y, low, h => by
    obtain ⟨h1, h2⟩ := szOk_cons h
    unfold shelO
    split
    · refine List.pairwise_cons.2 ⟨fun b hb => ?_, shelO_pair w g hg ps _ _ _ _ h2⟩
      rcases shelO_after w g hg ps _ _ _ _ h2 b hb with h3 | h3
      · left; exact h3
      · right; show low + g + p.2 + g ≤ b.2.1; omega
    · refine List.pairwise_cons.2 ⟨fun b hb => ?_, shelO_pair w g hg ps _ _ _ _ h2⟩
      rcases shelO_after w g hg ps _ _ _ _ h2 b hb with h3 | h3
      · left; exact h3
      · right; show y + p.2 + g ≤ b.2.1; omega

/-- a box of a size, valid, on the right side, and within the width unless it begins at 0 -/
def okB (w : Int) (b : Bx) (p : Pt) : Prop := vq b = true ∧ b.2.2.1 - b.1 = p.1 ∧ b.2.2.2 - b.2.1 = p.2 ∧ 0 ≤ b.1 ∧ 0 ≤ b.2.1 ∧ (0 < b.1 → b.2.2.1 ≤ w)
theorem shelO_ok (w g : Int) (hg : 0 ≤ g ∧ g ≤ 1048576) : ∀ (l : List Pt) (f : Bool) (x y low : Int) (c : Nat), szOk l → c + l.length ≤ 64 → (0 ≤ x ∧ x ≤ c * 2097152) → (0 ≤ y ∧ y ≤ c * 2097152) → (0 ≤ low ∧ low ≤ c * 2097152) → (f = true → x = 0) →
    ∀ i, i < l.length → okB w ((shelO w g f x y low l).getD i q0) (l.getD i p0)
  | [], f, x, y, low, c, _, _, _, _, _, _, i, hi => by simp at hi
  | p :: ps, f, x, y, low, c, h, hc, hx, hy, hl, hf, i, hi => by
    obtain ⟨h1, h2⟩ := szOk_cons h
    simp only [List.length_cons] at hc hi
    unfold shelO
    split
    · cases i with
      | zero =>
        simp only [List.getD_cons_zero]
        exact ⟨vq_iff.2 (by simp only; omega), by simp only; omega, by simp only; omega, by simp only; omega, by simp only; omega, fun h => by simp only at h; omega⟩
      | succ i =>
        simp only [List.getD_cons_succ]
        exact shelO_ok w g hg ps _ _ _ _ (c + 1) h2 (by omega) (by omega) (by omega) (by omega) (fun h => by cases h) i (by omega)
    · rename_i hn
      cases i with
      | zero =>
        simp only [List.getD_cons_zero]
        refine ⟨vq_iff.2 (by simp only; omega), by simp only; omega, by simp only; omega, by simp only; omega, by simp only; omega, fun h => ?_⟩
        simp only at h ⊢
        cases f with
        | true => have := hf rfl; omega
        | false => simp at hn; omega
      | succ i =>
        simp only [List.getD_cons_succ]
        exact shelO_ok w g hg ps _ _ _ _ (c + 1) h2 (by omega) (by omega) (by omega) (by omega) (fun h => by cases h) i (by omega)

theorem apart_ovl {g : Int} {a b : Bx} (_hg : 0 ≤ g) (h : apart g a b) : ovl a (infl b g) = false := by
  rw [Bool.eq_false_iff]
  intro ho
  simp only [ovl, Bool.and_eq_true, decide_eq_true_eq] at ho
  obtain ⟨⟨⟨_, _⟩, h3⟩, h4⟩ := ho
  unfold infl at h3 h4
  split at h3
  · rename_i hc
    rw [if_pos hc] at h4
    simp only at h3 h4
    rcases h with h | h <;> omega
  · simp only at h3
    omega
theorem pair_disj {l : List Bx} {g : Int} (hg : 0 ≤ g) (h : l.Pairwise (apart g)) : disj l g = true := by
  have : anyN (nearAny l g) l.length = false := anyN_false.2 fun j hj => anyN_false.2 fun i hi => by
    have := List.pairwise_iff_getElem.1 h i j (by omega) hj hi
    have e1 : l.getD i q0 = l[i]'(by omega) := by simp [List.getD, show i < l.length by omega]
    have e2 : l.getD j q0 = l[j] := by simp [List.getD, hj]
    rw [nearAt, e1, e2]
    exact apart_ovl hg this
  simp [disj, this]

def lp6 : List D → List D
  | [_, _, v, .l xs, .i _] => [.i 1, v, .i (xs.length : Int)]
  | _ => []
def pr6 (ρ : List D) : Prop := ∃ (l : List Pt) (w : Int) (v : D) (b : List Bx) (j : Nat), ρ = [.l (l.map encP), .i w, v, .l (b.map encQ), .i (j : Int)] ∧ j ≤ l.length ∧ b.length = l.length ∧ l.length ≤ 64 ∧ ∀ i, i < l.length → okB w (b.getD i q0) (l.getD i p0)

def wid (g : Int) : List Pt → Int
  | [] => 0
  | p :: ps => (g + p.1) + wid g ps
def sumX : List Pt → Int
  | [] => 0
  | p :: ps => p.1 + sumX ps
theorem wid_eq (g : Int) : ∀ l : List Pt, wid g l = (l.length : Int) * g + sumX l
  | [] => by simp [wid, sumX]
  | p :: ps => by
    simp only [wid, sumX, wid_eq g ps, List.length_cons]
    have : ((ps.length + 1 : Nat) : Int) * g = (ps.length : Int) * g + g := by
      have e : ((ps.length + 1 : Nat) : Int) = (ps.length : Int) + 1 := by omega
      rw [e, Int.add_mul, Int.one_mul]
    omega
theorem bestF_le (sz : List Pt) (g : Int) : ∀ (ps : List Pt) (b : List Bx) (w : Int) (i : Nat), (i ≠ 0 → ext (bestF sz g b w i ps).1 ≤ ext b) ∧ ∀ m, m < ps.length → ext (bestF sz g b w i ps).1 ≤ ext (shel (w + wid g (ps.take (m + 1))) g sz)
  | [], b, w, i => ⟨fun _ => Int.le_refl _, fun m hm => by simp at hm⟩
  | p :: ps, b, w, i => by
    unfold bestF
    obtain ⟨h1, h2⟩ := bestF_le sz g ps (if (i == 0) = true ∨ ext (shel (w + (g + p.1)) g sz) < ext b then shel (w + (g + p.1)) g sz else b) (w + (g + p.1)) (i + 1)
    have h1 := h1 (by omega)
    have hb : ext (if (i == 0) = true ∨ ext (shel (w + (g + p.1)) g sz) < ext b then shel (w + (g + p.1)) g sz else b) ≤ ext (shel (w + (g + p.1)) g sz) ∧ (i ≠ 0 → ext (if (i == 0) = true ∨ ext (shel (w + (g + p.1)) g sz) < ext b then shel (w + (g + p.1)) g sz else b) ≤ ext b) := by
      split
      · rename_i hc
        refine ⟨Int.le_refl _, fun hi => ?_⟩
        rcases hc with hc | hc
        · simp at hc; omega
        · omega
      · rename_i hc
        simp only [not_or, Int.not_lt] at hc
        exact ⟨hc.2, fun _ => Int.le_refl _⟩
    refine ⟨fun hi => Int.le_trans h1 (hb.2 hi), fun m hm => ?_⟩
    cases m with
    | zero =>
      have : w + wid g ((p :: ps).take (0 + 1)) = w + (g + p.1) := by simp [wid]
      rw [this]
      exact Int.le_trans h1 hb.1
    | succ m =>
      have h3 := h2 m (by simpa using hm)
      have e : w + (g + p.1) + wid g (ps.take (m + 1)) = w + wid g ((p :: ps).take (m + 1 + 1)) := by
        simp only [List.take_succ_cons, wid]; omega
      rw [e] at h3
      exact h3

def lp7 : List D → List D
  | [.l xs, .i k, .i w, .i i] => [.i 0, .i (w + sumX (((xs.map decP).take k.toNat).drop i.toNat)), .i k]
  | _ => []
def pr7 (ρ : List D) : Prop := ∃ (l : List Pt) (k j : Nat) (w : Int), ρ = [.l (l.map encP), .i (k : Int), .i w, .i (j : Int)] ∧ szOk l ∧ j ≤ k ∧ k ≤ l.length ∧ l.length ≤ 64 ∧ 0 ≤ w ∧ w ≤ 66060288 + j * 1048576

def F2 (f : FuncId) : List D → List D := if f = 10600 then lp6 else if f = 10700 then lp7 else F f
def R2 (f : FuncId) : List D → Prop := if f = 10600 then pr6 else if f = 10700 then pr7 else R f
theorem F2_of {f : FuncId} (h1 : f ≠ 10600) (h2 : f ≠ 10700) : F2 f = F f := by simp [F2, h1, h2]
theorem R2_of {f : FuncId} (h1 : f ≠ 10600) (h2 : f ≠ 10700) : R2 f = R f := by simp [R2, h1, h2]
theorem hM2 {l : List (FuncId × Sig)} (h : ∀ e ∈ l, e = (8, S8) ∨ e = (9, S9) ∨ e = (10, S10) ∨ e = (11, S11) ∨ e = (12, S12) ∨ e = (13, S13) ∨ e = (14, S14) ∨ e = (15, S15) ∨ e = (16, S16) ∨ e = (17, S17)) : ∀ f S, sgOf l f = some S → Meets Try.prog f S (R2 f) (F2 f) := sgOf_all (l := l) (by
  intro e he
  rcases h e he with rfl | rfl | rfl | rfl | rfl | rfl | rfl | rfl | rfl | rfl
  · exact m8
  · exact m9
  · exact m10
  · exact m11
  · exact m12
  · exact m13
  · exact m14
  · exact m15
  · exact m16
  · exact m17)

theorem loopM6 : LoopMeets Try.prog F2 (R2 L6_0.key) L6_0 lb6_0 := by
  refine loop_meets (pre := R2) mixed (hM2 (l := sg6) (by simp [sg6])) (loops_n 0 lk6_0 fun k hk => by omega) L6_0 (fun ρ => (((ρ.getD 3 default).lst.length : Int) - (ρ.getD 4 default).int).toNat) le6_0 fun ρ _ hp => ?_
  obtain ⟨l, w, v, b, j, rfl, hj, hb, h64, hok⟩ : pr6 ρ := hp
  have d0 : decide ((0 : Int) ≤ (j : Int)) = true := decide_eq_true (by omega)
  by_cases hlt : j < l.length
  · have d1 : decide ((j : Int) < (l.length : Int)) = true := decide_eq_true (by omega)
    have d2 : decide ((j : Int) < (b.length : Int)) = true := decide_eq_true (by omega)
    have hg1 : (l.map encP).getD j [] = encP (l.getD j p0) := row_get p0 hlt
    have hg2 : (b.map encQ).getD j [] = encQ (b.getD j q0) := row_get q0 (by omega)
    have hw : IntKind.i64.wrap ((j : Int) + 1) = ((j + 1 : Nat) : Int) := nat_wrap (by omega)
    obtain ⟨o1, o2, o3, o4, o5, o6⟩ := hok j hlt
    have ov := vq_iff.1 o1
    generalize b.getD j q0 = q at *
    generalize l.getD j p0 = p at *
    have w1 : IntKind.i64.wrap (q.2.2.1 - q.1) = p.1 := by rw [w64 (by omega)]; exact o2
    have w2 : IntKind.i64.wrap (q.2.2.2 - q.2.1) = p.2 := by rw [w64 (by omega)]; exact o3
    have d3 : decide (q.1 < 0) = false := decide_eq_false (by omega)
    have d4 : decide (q.2.1 < 0) = false := decide_eq_false (by omega)
    have d5 : (decide (0 < q.1) && decide (w < q.2.2.1)) = false := by
      rw [Bool.eq_false_iff]
      intro h
      simp only [Bool.and_eq_true, decide_eq_true_eq] at h
      have := o6 h.1
      omega
    have hbv : bv q.1 q.2.1 q.2.2.1 q.2.2.2 = true := o1
    simp only [rt6_0, VT.ok, Nd.holds, X.outs, X.ds, X.d, Op1.ev, Op2.ev, takeD_zero, takeD_cons, List.cons_append, List.nil_append, List.getD_cons_zero, List.getD_cons_succ, D.int_i, D.bool_b, D.lst_l, ite_b, ite_and, Int.toNat_natCast, List.length_map, if_true, Bool.false_eq_true, if_false, implies_true, true_and, d0, d1, d2, hg1, hg2, encP, encQ, hw, show F2 16 = fn16 from rfl, fn16_eq, hbv, w1, w2, beq_self_eq_true, Bool.not_true, d3, d4, d5]
    refine ⟨fun _ => trivial, ?_⟩
    refine round_next ⟨⟨l, w, v, b, j + 1, rfl, by omega, hb, h64, hok⟩, ?_, rfl⟩
    show (((b.map encQ).length : Int) - ((j + 1 : Nat) : Int)).toNat < (((b.map encQ).length : Int) - (j : Int)).toNat
    rw [List.length_map]; omega
  · have hj : j = l.length := by omega
    subst hj
    have d1 : decide ((l.length : Int) < (l.length : Int)) = false := decide_eq_false (by omega)
    simp only [rt6_0, VT.ok, Nd.holds, X.outs, X.ds, X.d, Op1.ev, Op2.ev, List.cons_append, List.nil_append, List.getD_cons_zero, List.getD_cons_succ, D.int_i, D.bool_b, D.lst_l, ite_b, ite_or, ite_and, Int.toNat_natCast, List.length_map, Bool.false_eq_true, if_false, d1, hb]
    refine round_exit (by omega) ?_
    show lp6 [.l (l.map encP), .i w, v, .l (b.map encQ), .i (l.length : Int)] = _
    simp only [lp6, List.length_map, hb]

theorem law6 : Meets Try.prog 6 S6 (fun _ => True) (fun _ => [.b true]) := by
  refine meets_of_vt (pre := R2) (Φ := F2) mixed (hM2 (l := sg6) (by simp [sg6])) Try.func6 b6 n6 (loops_n 1 k6 fun k hk => ?_) e6 fun ds hf _ => ?_
  · match k, hk with
    | 0, _ => exact loop_this lf6_0 loopM6
  obtain ⟨x, y, z, rfl, hx, hy, hz⟩ := fits3 hf.flat
  obtain ⟨l, rfl, hm, _⟩ := slP hx
  obtain ⟨w, rfl, _⟩ := wf_i64 hy
  obtain ⟨g, rfl, _⟩ := wf_i64 hz
  have p8 : R2 8 [] := trivial
  have f8 : F2 8 = one := rfl
  have f9 : F2 9 = shelvesD := rfl
  have f12 : F2 12 = disD := rfl
  have f13 : F2 13 = disD := rfl
  have f6 : F2 10600 = lp6 := rfl
  have r9 : R2 9 = chkPre := rfl
  have r12 : R2 12 = disPre := rfl
  have r13 : R2 13 = disPre := rfl
  have r6 : R2 10600 = pr6 := rfl
  by_cases h64 : 64 < l.length
  · have d1 : decide ((64 : Int) < (l.length : Int)) = true := decide_eq_true (by omega)
    simp only [vt6, VT.ok, Nd.holds, X.outs, X.ds, X.d, Op1.ev, Op2.ev, takeD_zero, takeD_cons, List.cons_append, List.nil_append, List.getD_cons_zero, List.getD_cons_succ, D.int_i, D.bool_b, D.lst_l, ite_b, ite_or, List.length_map, if_true, implies_true, true_and, and_true, d1, p8, f8, one]
  have d1 : decide ((64 : Int) < (l.length : Int)) = false := decide_eq_false (by omega)
  have hp : chkPre [.l (l.map encP), .i w, .i g] := ⟨l, w, g, rfl, hm⟩
  by_cases h0 : cerr l w g = 0
  · obtain ⟨o1, o2, o3, o4⟩ := cerr_ok h0
    have hlen : (shel w g l).length ≤ maxLen := by rw [shel_len]; exact hm
    have hd : disPre [.l ((shel w g l).map encQ), .i g] := ⟨_, g, rfl, hlen⟩
    have hpair : disj (shel w g l) g = true := pair_disj o3.1 (by rw [shel_out]; exact shelO_pair w g o3.1 l _ _ _ _ o1)
    have hok := shelO_ok w g o3 l true 0 0 0 0 o1 (by omega) (by omega) (by omega) (by omega) (fun _ => rfl)
    rw [← shel_out] at hok
    have hpre : pr6 [.l (l.map encP), .i w, .b false, .l ((shel w g l).map encQ), .i 0] := ⟨l, w, .b false, shel w g l, 0, rfl, by omega, shel_len w g l, by omega, hok⟩
    have hlp : lp6 [.l (l.map encP), .i w, .b false, .l ((shel w g l).map encQ), .i 0] = [.i 1, .b false, .i (l.length : Int)] := by
      simp only [lp6, List.length_map, shel_len]
    simp only [vt6, VT.ok, Nd.holds, X.outs, X.ds, X.d, Op1.ev, Op2.ev, takeD_zero, takeD_cons, List.cons_append, List.nil_append, List.getD_cons_zero, List.getD_cons_succ, D.int_i, D.bool_b, D.lst_l, ite_b, ite_and, List.length_map, if_true, Bool.false_eq_true, if_false, implies_true, true_and, and_true, d1, f9, r9, hp, shelvesD, map_decP, h0, beq_self_eq_true, Bool.not_true, shel_len, f12, f13, r12, r13, hd, disD, map_decQ, hpair, f6, r6, hpre, hlp, show ((1 : Int) == 0) = false from rfl, p8, f8, one]
  · have hb : (!(cerr l w g == 0)) = true := by simp [h0]
    simp only [vt6, VT.ok, Nd.holds, X.outs, X.ds, X.d, Op1.ev, Op2.ev, takeD_zero, takeD_cons, List.cons_append, List.nil_append, List.getD_cons_zero, List.getD_cons_succ, D.int_i, D.bool_b, D.lst_l, ite_b, ite_or, List.length_map, if_true, Bool.false_eq_true, if_false, implies_true, true_and, and_true, d1, f9, r9, hp, shelvesD, map_decP, h0, hb, List.map_nil, List.length_nil, show (((0 : Nat) : Int) == 0) = true from rfl, p8, f8, one]

theorem loopM7 : LoopMeets Try.prog F2 (R2 L7_0.key) L7_0 lb7_0 := by
  refine loop_meets (pre := R2) mixed (hM2 (l := sg7) (by simp [sg7])) (loops_n 0 lk7_0 fun k hk => by omega) L7_0 (fun ρ => ((ρ.getD 1 default).int - (ρ.getD 3 default).int).toNat) le7_0 fun ρ _ hp => ?_
  obtain ⟨l, k, j, w, rfl, hs, hj, hk, h64, hw0, hw1⟩ : pr7 ρ := hp
  have d0 : decide ((0 : Int) ≤ (j : Int)) = true := decide_eq_true (by omega)
  by_cases hlt : j < k
  · have d1 : decide ((j : Int) < (k : Int)) = true := decide_eq_true (by omega)
    have d2 : decide ((j : Int) < (l.length : Int)) = true := decide_eq_true (by omega)
    have hg1 : (l.map encP).getD j [] = encP (l.getD j p0) := row_get p0 (by omega)
    have hw : IntKind.i64.wrap ((j : Int) + 1) = ((j + 1 : Nat) : Int) := nat_wrap (by omega)
    have hb : 0 ≤ (l.getD j p0).1 ∧ (l.getD j p0).1 ≤ 1048576 := by
      have e : l.getD j p0 = l[j]'(by omega) := by simp [List.getD, show j < l.length by omega]
      rw [e]
      exact (hs _ (List.getElem_mem _)).1
    have w1 : IntKind.i64.wrap (w + (l.getD j p0).1) = w + (l.getD j p0).1 := w64 (by omega)
    simp only [rt7_0, VT.ok, Nd.holds, X.ds, X.d, Op1.ev, Op2.ev, List.getD_cons_zero, List.getD_cons_succ, D.int_i, D.bool_b, D.lst_l, Int.toNat_natCast, List.length_map, if_true, implies_true, true_and, d0, d1, d2, hg1, encP, hw, w1]
    refine round_next ⟨⟨l, k, j + 1, w + (l.getD j p0).1, rfl, hs, by omega, hk, h64, by omega, by omega⟩, ?_, ?_⟩
    · show ((k : Int) - ((j + 1 : Nat) : Int)).toNat < ((k : Int) - (j : Int)).toNat
      omega
    · show lp7 [.l (l.map encP), .i (k : Int), .i (w + (l.getD j p0).1), .i ((j + 1 : Nat) : Int)] = lp7 [.l (l.map encP), .i (k : Int), .i w, .i (j : Int)]
      have hlk : j < (l.take k).length := by rw [List.length_take]; omega
      have hd := drop_at (l.take k) hlk
      have e : (l.take k).getD j p0 = l.getD j p0 := by simp [List.getD, hlt]
      simp only [lp7, map_decP, Int.toNat_natCast, hd, sumX, e]
      congr 3
      omega
  · have hj : j = k := by omega
    subst hj
    have d1 : decide ((j : Int) < (j : Int)) = false := decide_eq_false (by omega)
    simp only [rt7_0, VT.ok, Nd.holds, X.ds, X.d, Op1.ev, Op2.ev, List.getD_cons_zero, List.getD_cons_succ, D.int_i, D.bool_b, D.lst_l, Int.toNat_natCast, List.length_map, Bool.false_eq_true, if_false, d1]
    refine round_exit (by omega) ?_
    show lp7 [.l (l.map encP), .i (j : Int), .i w, .i (j : Int)] = _
    have : (l.take j).drop j = [] := List.drop_of_length_le (by rw [List.length_take]; omega)
    simp only [lp7, map_decP, Int.toNat_natCast, this, sumX, Int.add_zero]

theorem sumX_bd : ∀ {l : List Pt}, szOk l → 0 ≤ sumX l ∧ sumX l ≤ l.length * 1048576
  | [], _ => by simp [sumX]
  | p :: ps, h => by
    obtain ⟨h1, h2⟩ := szOk_cons h
    have := sumX_bd h2
    simp only [sumX, List.length_cons]
    omega

theorem law7 : Meets Try.prog 7 S7 (fun _ => True) (fun _ => [.b true]) := by
  refine meets_of_vt (pre := R2) (Φ := F2) mixed (hM2 (l := sg7) (by simp [sg7])) Try.func7 b7 n7 (loops_n 1 k7 fun k hk => ?_) e7 fun ds hf _ => ?_
  · match k, hk with
    | 0, _ => exact loop_this lf7_0 loopM7
  obtain ⟨x, y, z, rfl, hx, hy, hz⟩ := fits3 hf.flat
  obtain ⟨l, rfl, hm, _⟩ := slP hx
  obtain ⟨g, rfl, _⟩ := wf_i64 hy
  obtain ⟨k, rfl, _⟩ := wf_i64 hz
  have p8 : R2 8 [] := trivial
  have f8 : F2 8 = one := rfl
  by_cases hc : 64 < (l.length : Int) ∨ k < 1 ∨ (l.length : Int) < k
  · have d1 : (decide ((64 : Int) < (l.length : Int)) || decide (k < 1) || decide ((l.length : Int) < k)) = true := by
      simp only [Bool.or_eq_true, decide_eq_true_eq]; omega
    simp only [vt7, VT.ok, Nd.holds, X.outs, X.ds, X.d, Op1.ev, Op2.ev, takeD_zero, takeD_cons, List.cons_append, List.nil_append, List.getD_cons_zero, List.getD_cons_succ, D.int_i, D.bool_b, D.lst_l, ite_b, ite_or, ite_and, List.length_map, if_true, implies_true, true_and, and_true, d1, p8, f8, one]
  have d1 : (decide ((64 : Int) < (l.length : Int)) || decide (k < 1) || decide ((l.length : Int) < k)) = false := by
    rw [Bool.eq_false_iff]
    intro h
    simp only [Bool.or_eq_true, decide_eq_true_eq] at h
    omega
  have f9 : F2 9 = shelvesD := rfl
  have f14 : F2 14 = bestD := rfl
  have f17 : F2 17 = extD := rfl
  have f7 : F2 10700 = lp7 := rfl
  have r9 : R2 9 = chkPre := rfl
  have r14 : R2 14 = bestPre := rfl
  have r17 : R2 17 = extPre := rfl
  have r7 : R2 10700 = pr7 := rfl
  have hp : bestPre [.l (l.map encP), .i g] := ⟨l, g, rfl, hm⟩
  by_cases h0 : cerr l 0 g = 0
  · obtain ⟨o1, o2, o3, o4⟩ := cerr_ok h0
    obtain ⟨kn, rfl⟩ : ∃ kn : Nat, k = (kn : Int) := ⟨k.toNat, by omega⟩
    have hmul := mul_bd (a := (kn : Int) - 1) (b := g) (p := 63) (q := 1048576) (by omega) (by omega)
    have hmul0 : 0 ≤ ((kn : Int) - 1) * g := Int.mul_nonneg (by omega) o3.1
    have w1 : IntKind.i64.wrap ((kn : Int) - 1) = (kn : Int) - 1 := w64 (by omega)
    have w2 : IntKind.i64.wrap (((kn : Int) - 1) * g) = ((kn : Int) - 1) * g := w64 (by omega)
    have hpre : pr7 [.l (l.map encP), .i (kn : Int), .i (((kn : Int) - 1) * g), .i 0] := ⟨l, kn, 0, _, rfl, o1, by omega, by omega, by omega, hmul0, by omega⟩
    have hlp : lp7 [.l (l.map encP), .i (kn : Int), .i (((kn : Int) - 1) * g), .i 0] = [.i 0, .i (((kn : Int) - 1) * g + sumX (l.take kn)), .i (kn : Int)] := by
      simp only [lp7, map_decP, Int.toNat_natCast]; rfl
    have hst : szOk (l.take kn) := fun p hp => o1 p (List.mem_of_mem_take hp)
    have hsb := sumX_bd hst
    have hlk : (l.take kn).length = kn := by rw [List.length_take]; omega
    rw [hlk] at hsb
    have hwd : -g + wid g (l.take kn) = ((kn : Int) - 1) * g + sumX (l.take kn) := by
      rw [wid_eq, hlk, Int.sub_mul, Int.one_mul]; omega
    have hle := (bestF_le l g l [] (-g) 0).2 (kn - 1) (by omega)
    rw [show kn - 1 + 1 = kn by omega, hwd] at hle
    have hce : cerr l (((kn : Int) - 1) * g + sumX (l.take kn)) g = 0 := cerr_any o1 o4 o3 (by omega)
    have hch : chkPre [.l (l.map encP), .i (((kn : Int) - 1) * g + sumX (l.take kn)), .i g] := ⟨l, _, g, rfl, hm⟩
    have he1 : extPre [.l ((best l g).map encQ)] := ⟨_, rfl, Nat.le_trans (best_len l g) hm⟩
    have he2 : extPre [.l ((shel (((kn : Int) - 1) * g + sumX (l.take kn)) g l).map encQ)] := ⟨_, rfl, by rw [shel_len]; exact hm⟩
    have hde : decide (ext (best l g) ≤ ext (shel (((kn : Int) - 1) * g + sumX (l.take kn)) g l)) = true := decide_eq_true hle
    simp only [vt7, VT.ok, Nd.holds, X.outs, X.ds, X.d, Op1.ev, Op2.ev, takeD_zero, takeD_cons, List.cons_append, List.nil_append, List.getD_cons_zero, List.getD_cons_succ, D.int_i, D.bool_b, D.lst_l, ite_b, ite_or, ite_and, List.length_map, if_true, Bool.false_eq_true, if_false, implies_true, true_and, and_true, d1, f14, r14, hp, bestD, map_decP, h0, beq_self_eq_true, Bool.not_true, w1, w2, f7, r7, hpre, hlp, f9, r9, hch, shelvesD, hce, f17, r17, he1, he2, extD, map_decQ, hde, p8, f8, one]
  · have hb : (!(cerr l 0 g == 0)) = true := by simp [h0]
    simp only [vt7, VT.ok, Nd.holds, X.outs, X.ds, X.d, Op1.ev, Op2.ev, takeD_zero, takeD_cons, List.cons_append, List.nil_append, List.getD_cons_zero, List.getD_cons_succ, D.int_i, D.bool_b, D.lst_l, ite_b, ite_or, ite_and, List.length_map, if_true, Bool.false_eq_true, if_false, implies_true, true_and, and_true, d1, f14, r14, hp, bestD, map_decP, h0, hb, List.map_nil, List.length_nil, show (((0 : Nat) : Int) == 0) = true from rfl, p8, f8, one]
end Go.Proofs.Ytnfndnaddnoiaaa.rv
