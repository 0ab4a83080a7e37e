/-
  The trig package and its reference as functions of data: sines of the reference, angles, polar coordinates.
-/
import Derived.Test.YtpbjlhgdgggmkaaRvTrig1
namespace Go.Proofs.Ytpbjlhgdgggmkaa.rv
open Go.RV

def tblD : List D → List D
  | [.i d] => [.i (tbl d)]
  | _ => []
theorem tab2_at {n : Int} (h0 : 0 ≤ n) (h1 : n < 91) : ((tab.map fun x => [D.i x]).getD n.toNat []).getD 0 default = .i (tbl n) := by
  have hl : n.toNat < tab.length := by show n.toNat < 91; omega
  simp [List.getD, hl, tbl]

theorem m25 : Meets Try.prog 25 S25 (snPre 90) tblD := by
  refine meets_of_vt (pre := fun _ _ => True) (Φ := fun _ _ => []) mixed (sgOf_all (pre := fun _ _ => True) (Φ := fun _ _ => []) (l := sg25) (fun e he => by cases he)) Try.func25 b25 n25 (loops_n 0 k25 fun k hk => by omega) e25 fun ds _ hd => ?_
  obtain ⟨d, rfl, h0, h1⟩ := hd
  have key : ∀ x : X, X.d (fun _ _ => []) [D.i d] x = .l (tab.map fun n => [.i n]) →
      VT.ok (fun _ _ => []) [D.i d] (fun _ _ => True) (fun out => out = tblD [.i d]) (.need (.t true) (.c (.bin .le (.n 0) (.var 0))) (.need (.t true) (.c (.bin .lt (.var 0) (.un .len x))) (.ret (.cons (.sel 0 x (.var 0)) .nil)))) := by
    intro x hx
    have hl : ((tab.map fun n => [D.i n]).length : Int) = 91 := rfl
    simp only [VT.ok, Nd.holds, X.ds, X.d, hx, Op1.ev, Op2.ev, List.getD_cons_zero, D.int_i, D.bool_b, D.lst_l, hl, decide_eq_true_eq, tab2_at h0 (show d < 91 by omega), tblD]
    exact ⟨fun _ => h0, fun _ => by omega, trivial⟩
  exact key _ (by kernel_rfl)

def F19 : FuncId → List D → List D := tabOf [(19, snD), (25, tblD)]
def P19 (p : List D → Prop) (f : FuncId) (ρ : List D) : Prop := if f = 19 then p ρ else snPre 90 ρ

theorem m19_of {p : List D → Prop} (h19 : Meets Try.prog 19 S19 p snD) {hi : Int} (hp : ∀ d, 0 ≤ d → d ≤ hi → 180 < d → p [.i (d - 180)]) (hhi : hi ≤ 360) : Meets Try.prog 19 S19 (snPre hi) snD := by
  refine meets_of_vt (pre := P19 p) (Φ := F19) mixed (sgOf_all (l := sg19) ?_) Try.func19 b19 n19 (loops_n 0 k19 fun k hk => by omega) e19 fun ds _ hd => ?_
  · intro e he
    simp only [sg19, List.mem_cons, List.not_mem_nil, or_false] at he
    rcases he with rfl | rfl
    · exact h19
    · exact m25
  · obtain ⟨d, rfl, h0, h1⟩ := hd
    have e19 : F19 19 = snD := rfl
    have e25 : F19 25 = tblD := rfl
    have p19 : P19 p 19 = p := by funext; simp [P19]
    have p25 : P19 p 25 = snPre 90 := by funext; simp [P19]
    have hw : IntKind.i64.wrap (d - 180) = d - 180 := w64 (by omega)
    by_cases hlt : 180 < d
    · have hbd := sn_bd (d - 180)
      have hneg : IntKind.i64.wrap (0 - sn (d - 180)) = - sn (d - 180) := by rw [w64 (by omega)]; omega
      have hs : -sn (d - 180) = sn d := by
        have h2 : ¬ 180 < d - 180 := by omega
        simp only [sn, hlt, h2, if_true, if_false]
        congr 2
        omega
      simp only [vt19, VT.ok, Nd.holds, X.outs, X.ds, X.d, Op1.ev, Op2.ev, takeD_zero, takeD_cons, List.cons_append, List.nil_append, List.getD_cons_zero, List.getD_cons_succ, D.int_i, D.bool_b, hlt, decide_true, if_true, hw, e19, snD, hneg, hs, p19]
      exact ⟨fun _ => hp d h0 h1 hlt, trivial⟩
    · have hw2 : IntKind.i64.wrap (180 - d) = 180 - d := w64 (by omega)
      by_cases h90 : 90 < d
      · have hs : sn d = tbl (180 - d) := by
          simp only [sn, hlt, if_false]
          congr 1
          omega
        simp only [vt19, VT.ok, Nd.holds, X.outs, X.ds, X.d, Op1.ev, Op2.ev, takeD_zero, takeD_cons, List.cons_append, List.nil_append, List.getD_cons_zero, List.getD_cons_succ, D.int_i, D.bool_b, hlt, h90, decide_true, decide_false, Bool.false_eq_true, if_true, if_false, hw2, e25, tblD, snD, hs, p25]
        exact ⟨fun _ => ⟨_, rfl, by omega, by omega⟩, trivial⟩
      · have hs : sn d = tbl d := by
          simp only [sn, hlt, if_false]
          congr 1
          omega
        simp only [vt19, VT.ok, Nd.holds, X.outs, X.ds, X.d, Op1.ev, Op2.ev, takeD_zero, takeD_cons, List.cons_append, List.nil_append, List.getD_cons_zero, List.getD_cons_succ, D.int_i, D.bool_b, hlt, h90, decide_false, Bool.false_eq_true, if_false, e25, tblD, snD, hs, p25]
        exact ⟨fun _ => ⟨_, rfl, by omega, by omega⟩, trivial⟩

theorem m19a : Meets Try.prog 19 S19 (snPre 180) snD := m19_of (meets_none Try.func19 b19 n19) (hi := 180) (fun d h0 h1 h => by omega) (by omega)
theorem m19 : Meets Try.prog 19 S19 (snPre 359) snD := m19_of m19a (hi := 359) (fun d h0 h1 h => ⟨d - 180, rfl, by omega, by omega⟩) (by omega)

/-! ### angles -/
theorem i64_of {S : Sig} {ds : List D} (hf : Fits S.ps ds) (hs : flatCts S.ps = [.int .i64]) : ∃ d : Int, ds = [.i d] ∧ -9223372036854775808 ≤ d ∧ d ≤ 9223372036854775807 := by
  have h := hf.flat
  rw [hs] at h
  match ds, h with
  | [d0], ⟨h0, _⟩ =>
    obtain ⟨d, rfl, h1⟩ := wf_i64 h0
    exact ⟨d, rfl, h1⟩

def trnD : List D → List D
  | [.i d] => [.i (d % 360)]
  | _ => []
theorem fn18_eq {ds : List D} (hf : Fits S18.ps ds) : fn18 ds = trnD ds := by
  obtain ⟨d, rfl, h1, h2⟩ := i64_of (S := S18) hf rfl
  simp only [fn18, vt18, VT.val, X.ds, X.d, Op2.ev, List.getD_cons_zero, D.int_i, D.bool_b, tmod_lit d 360 (by omega), trnD, decide_eq_true_eq]
  by_cases h : d < 0
  · simp only [h, if_true]
    have e1 : IntKind.i64.wrap (-((-d) % 360) + 360) = -((-d) % 360) + 360 := w64 (by omega)
    simp only [e1]
    split <;> (congr 2; omega)
  · simp only [h, if_false]
    split
    · omega
    · rfl
theorem m18' : Meets Try.prog 18 S18 (fun _ => True) trnD := m18.to fun ds hf _ => ⟨trivial, fn18_eq hf⟩
theorem fn20_eq {ds : List D} (hf : Fits S20.ps ds) : fn20 ds = trnD ds := by
  obtain ⟨d, rfl, h1, h2⟩ := i64_of (S := S20) hf rfl
  have e0 : -360 < d.tmod 360 ∧ d.tmod 360 < 360 := by rw [tmod_lit d 360 (by omega)]; omega
  have e1 : IntKind.i64.wrap (d.tmod 360 + 360) = d.tmod 360 + 360 := w64 (by omega)
  simp only [fn20, vt20, VT.val, X.ds, X.d, Op2.ev, List.getD_cons_zero, D.int_i, e1, trnD]
  rw [tmod_lit (d.tmod 360 + 360) 360 (by omega), if_neg (by omega), tmod_lit d 360 (by omega)]
  congr 2
  omega
theorem m20' : Meets Try.prog 20 S20 (fun _ => True) trnD := m20.to fun ds hf _ => ⟨trivial, fn20_eq hf⟩

def si (d : Int) : Int := sn (d % 360)
def co (d : Int) : Int := sn ((d % 360 + 90) % 360)
theorem si_bd (d : Int) : -10000 ≤ si d ∧ si d ≤ 10000 := sn_bd _
theorem co_bd (d : Int) : -10000 ≤ co d ∧ co d ≤ 10000 := sn_bd _
def siD : List D → List D
  | [.i d] => [.i (si d)]
  | _ => []
def coD : List D → List D
  | [.i d] => [.i (co d)]
  | _ => []

def F8 : FuncId → List D → List D := tabOf [(18, trnD), (17, snD), (20, trnD), (19, snD)]
def P8 (f : FuncId) (ρ : List D) : Prop := if f = 17 then snPre 359 ρ else if f = 19 then snPre 359 ρ else True
theorem hM8 {l : List (FuncId × Sig)} (h : ∀ e ∈ l, e = (18, S18) ∨ e = (17, S17) ∨ e = (20, S20) ∨ e = (19, S19)) : ∀ f S, sgOf l f = some S → Meets Try.prog f S (P8 f) (F8 f) := sgOf_all (l := l) (by
  intro e he
  rcases h e he with rfl | rfl | rfl | rfl
  · exact m18'
  · exact m17
  · exact m20'
  · exact m19)
theorem P8_17 : P8 17 = snPre 359 := by funext; simp [P8]
theorem P8_19 : P8 19 = snPre 359 := by funext; simp [P8]
theorem P8_18 (x : List D) : P8 18 x := by simp [P8]
theorem P8_20 (x : List D) : P8 20 x := by simp [P8]

theorem m8 : Meets Try.prog 8 S8 (fun _ => True) siD := by
  refine meets_of_vt (pre := P8) (Φ := F8) mixed (hM8 (l := sg8) (by simp [sg8])) Try.func8 b8 n8 (loops_n 0 k8 fun k hk => by omega) e8 fun ds hf _ => ?_
  obtain ⟨d, rfl, h1, h2⟩ := i64_of (S := S8) hf rfl
  simp only [vt8, VT.ok, Nd.holds, X.outs, X.ds, X.d, takeD_zero, takeD_cons, List.cons_append, List.nil_append, List.getD_cons_zero, List.getD_cons_succ, show F8 18 = trnD from rfl, show F8 17 = snD from rfl, trnD, snD, P8_17]
  exact ⟨fun _ => P8_18 _, fun _ => ⟨_, rfl, by omega, by omega⟩, rfl⟩
theorem m9 : Meets Try.prog 9 S9 (fun _ => True) siD := by
  refine meets_of_vt (pre := P8) (Φ := F8) mixed (hM8 (l := sg9) (by simp [sg9])) Try.func9 b9 n9 (loops_n 0 k9 fun k hk => by omega) e9 fun ds hf _ => ?_
  obtain ⟨d, rfl, h1, h2⟩ := i64_of (S := S9) hf rfl
  simp only [vt9, VT.ok, Nd.holds, X.outs, X.ds, X.d, takeD_zero, takeD_cons, List.cons_append, List.nil_append, List.getD_cons_zero, List.getD_cons_succ, show F8 20 = trnD from rfl, show F8 19 = snD from rfl, trnD, snD, P8_19]
  exact ⟨fun _ => P8_20 _, fun _ => ⟨_, rfl, by omega, by omega⟩, rfl⟩
theorem m10 : Meets Try.prog 10 S10 (fun _ => True) coD := by
  refine meets_of_vt (pre := P8) (Φ := F8) mixed (hM8 (l := sg10) (by simp [sg10])) Try.func10 b10 n10 (loops_n 0 k10 fun k hk => by omega) e10 fun ds hf _ => ?_
  obtain ⟨d, rfl, h1, h2⟩ := i64_of (S := S10) hf rfl
  have e1 : IntKind.i64.wrap (d % 360 + 90) = d % 360 + 90 := w64 (by omega)
  simp only [vt10, VT.ok, Nd.holds, X.outs, X.ds, X.d, Op2.ev, takeD_zero, takeD_cons, List.cons_append, List.nil_append, List.getD_cons_zero, List.getD_cons_succ, D.int_i, show F8 18 = trnD from rfl, show F8 17 = snD from rfl, trnD, snD, P8_17, e1]
  exact ⟨fun _ => P8_18 _, fun _ => P8_18 _, fun _ => ⟨_, rfl, by omega, by omega⟩, rfl⟩
theorem m11 : Meets Try.prog 11 S11 (fun _ => True) coD := by
  refine meets_of_vt (pre := P8) (Φ := F8) mixed (hM8 (l := sg11) (by simp [sg11])) Try.func11 b11 n11 (loops_n 0 k11 fun k hk => by omega) e11 fun ds hf _ => ?_
  obtain ⟨d, rfl, h1, h2⟩ := i64_of (S := S11) hf rfl
  have e1 : IntKind.i64.wrap (d % 360 + 90) = d % 360 + 90 := w64 (by omega)
  simp only [vt11, VT.ok, Nd.holds, X.outs, X.ds, X.d, Op2.ev, takeD_zero, takeD_cons, List.cons_append, List.nil_append, List.getD_cons_zero, List.getD_cons_succ, D.int_i, show F8 20 = trnD from rfl, show F8 19 = snD from rfl, trnD, snD, P8_19, e1]
  exact ⟨fun _ => P8_20 _, fun _ => P8_20 _, fun _ => ⟨_, rfl, by omega, by omega⟩, rfl⟩

/-! ### products by a sine -/
def rnd (n : Int) : Int := if n < 0 then -((-n + 5000) / 10000) else (n + 5000) / 10000
def sclD : List D → List D
  | [.i r, .i s] => [.i (rnd (r * s))]
  | _ => []
def sclPre (lo : Int) (ds : List D) : Prop := ∃ r s, ds = [.i r, .i s] ∧ 0 ≤ r ∧ r ≤ 1048576 ∧ lo ≤ s ∧ s ≤ 10000

theorem fn22_eq {r s : Int} (h : 0 ≤ r ∧ r ≤ 1048576) (k : -10000 ≤ s ∧ s ≤ 10000) : fn22 [.i r, .i s] = sclD [.i r, .i s] := by
  have hb := mul_bd (a := r) (b := s) (p := 1048576) (q := 10000) (by omega) k
  have e1 : IntKind.i64.wrap (r * s) = r * s := w64 (by omega)
  have e2 : IntKind.i64.wrap (0 - r * s) = -(r * s) := by rw [w64 (by omega)]; omega
  have e3 : IntKind.i64.wrap (-(r * s) + 5000) = -(r * s) + 5000 := w64 (by omega)
  have e4 : IntKind.i64.wrap (r * s + 5000) = r * s + 5000 := w64 (by omega)
  simp only [fn22, vt22, VT.val, X.ds, X.d, Op1.ev, Op2.ev, List.getD_cons_zero, List.getD_cons_succ, D.int_i, D.bool_b, decide_eq_true_eq, e1, e2, e3, e4, sclD, rnd]
  generalize hn : r * s = n at *
  split
  · rw [tdiv_lit _ _ (by omega), if_neg (by omega), w64 (n := (-n + 5000) / 10000) (by omega), w64 (by omega)]
    congr 2; omega
  · rw [tdiv_lit _ _ (by omega), if_neg (by omega), w64 (by omega)]
theorem m22' : Meets Try.prog 22 S22 (sclPre (-10000)) sclD := m22.to fun ds hf hp => by
  obtain ⟨r, s, rfl, h0, h1, h2, h3⟩ := hp
  exact ⟨trivial, fn22_eq ⟨h0, h1⟩ ⟨h2, h3⟩⟩

theorem m23_of {p : List D → Prop} (h23 : Meets Try.prog 23 S23 p sclD) {lo : Int} (hlo : -10000 ≤ lo) (hp : ∀ r s, 0 ≤ r → r ≤ 1048576 → lo ≤ s → s < 0 → p [.i r, .i (-s)]) : Meets Try.prog 23 S23 (sclPre lo) sclD := by
  refine meets_of_vt (pre := fun _ => p) (Φ := fun _ => sclD) mixed (sgOf_all (pre := fun _ => p) (Φ := fun _ => sclD) (l := sg23) ?_) Try.func23 b23 n23 (loops_n 0 k23 fun k hk => by omega) e23 fun ds _ hd => ?_
  · intro e he
    simp only [sg23, List.mem_cons, List.not_mem_nil, or_false] at he
    subst he
    exact h23
  · obtain ⟨r, s, rfl, h0, h1, h2, h3⟩ := hd
    have hb := mul_bd (a := r) (b := s) (p := 1048576) (q := 10000) (by omega) (by omega)
    by_cases hs : s < 0
    · have e1 : IntKind.i64.wrap (0 - s) = -s := by rw [w64 (by omega)]; omega
      have hm : r * -s = -(r * s) := Int.mul_neg ..
      have hr : IntKind.i64.wrap (0 - rnd (r * -s)) = rnd (r * s) := by
        rw [hm]
        have hle : r * s ≤ 0 := Int.mul_nonpos_of_nonneg_of_nonpos h0 (by omega)
        generalize r * s = n at *
        have : rnd (-n) = -rnd n := by simp only [rnd]; split <;> split <;> omega
        rw [this, w64 (by simp only [rnd]; split <;> omega)]
        omega
      simp only [vt23, VT.ok, Nd.holds, X.outs, X.ds, X.d, Op1.ev, Op2.ev, takeD_zero, takeD_cons, List.cons_append, List.nil_append, List.getD_cons_zero, List.getD_cons_succ, D.int_i, D.bool_b, hs, decide_true, if_true, e1, sclD, hr]
      exact ⟨fun _ => hp r s h0 h1 h2 hs, trivial⟩
    · have hge : 0 ≤ r * s := Int.mul_nonneg h0 (by omega)
      have e1 : IntKind.i64.wrap (r * s) = r * s := w64 (by omega)
      have e4 : IntKind.i64.wrap (r * s + 5000) = r * s + 5000 := w64 (by omega)
      simp only [vt23, VT.ok, X.ds, X.d, Op2.ev, List.getD_cons_zero, List.getD_cons_succ, D.int_i, D.bool_b, hs, decide_false, Bool.false_eq_true, if_false, e1, e4, sclD, rnd]
      generalize r * s = n at *
      rw [if_neg (by omega), tdiv_lit _ _ (by omega), if_neg (by omega), w64 (by omega)]
theorem m23a : Meets Try.prog 23 S23 (sclPre 0) sclD := m23_of (meets_none Try.func23 b23 n23) (by omega) fun r s h0 h1 h2 h3 => by omega
theorem m23 : Meets Try.prog 23 S23 (sclPre (-10000)) sclD := m23_of m23a (by omega) fun r s h0 h1 h2 h3 => ⟨r, -s, rfl, h0, h1, by omega, by omega⟩

end Go.Proofs.Ytpbjlhgdgggmkaa.rv
