/-
  The trig package and its reference as functions of data (for any seat).
-/
import Derived.Test.YtdehhmcfhaeheaaRvBoxT
namespace Go.Proofs.Ytdehhmcfhaeheaa.rv
open Go.RV

def tab : List Int := [0, 175, 349, 523, 698, 872, 1045, 1219, 1392, 1564, 1736, 1908, 2079, 2250, 2419, 2588, 2756, 2924, 3090, 3256, 3420, 3584, 3746, 3907, 4067, 4226, 4384, 4540, 4695, 4848, 5000, 5150, 5299, 5446, 5592, 5736, 5878, 6018, 6157, 6293, 6428, 6561, 6691, 6820, 6947, 7071, 7193, 7314, 7431, 7547, 7660, 7771, 7880, 7986, 8090, 8192, 8290, 8387, 8480, 8572, 8660, 8746, 8829, 8910, 8988, 9063, 9135, 9205, 9272, 9336, 9397, 9455, 9511, 9563, 9613, 9659, 9703, 9744, 9781, 9816, 9848, 9877, 9903, 9925, 9945, 9962, 9976, 9986, 9994, 9998, 10000]
def tbl (n : Int) : Int := tab.getD n.toNat 0
theorem tbl_bd (n : Int) : 0 ≤ tbl n ∧ tbl n ≤ 10000 := by
  have h : ∀ x ∈ tab, 0 ≤ x ∧ x ≤ 10000 := by decide
  unfold tbl
  simp only [List.getD]
  cases hx : tab[n.toNat]? with
  | none => simp
  | some x => exact h x (List.mem_of_getElem? hx)
theorem tab_at {n : Int} (h0 : 0 ≤ n) (h1 : n < 91) : (tab.map D.i).getD n.toNat default = .i (tbl n) := by
  have hl : tab.length = 91 := rfl
  exact getD_map D.i tab n.toNat 0 (by omega)

def sn (d : Int) : Int := if 180 < d then -(tbl (min (d - 180) (360 - d))) else tbl (min d (180 - d))
theorem sn_bd (d : Int) : -10000 ≤ sn d ∧ sn d ≤ 10000 := by
  unfold sn
  split
  · have := tbl_bd (min (d - 180) (360 - d)); omega
  · have := tbl_bd (min d (180 - d)); omega

def snD : List D → List D
  | [.i d] => [.i (sn d)]
  | _ => []
def snPre (hi : Int) (ds : List D) : Prop := ∃ d, ds = [.i d] ∧ 0 ≤ d ∧ d ≤ hi

theorem fn41_eq : fn41 [] = tab.map D.i := by kernel_rfl

def Ft37 : FuncId → List D → List D := tabOf [(37, snD), (41, fn41)]
def Pt_37 (p : List D → Prop) (f : FuncId) (ρ : List D) : Prop := if f = 37 then p ρ else True

theorem m37_of {p : List D → Prop} (h17 : Meets Try.prog 37 S37 p snD) {hi : Int} (hp : ∀ d, 0 ≤ d → d ≤ hi → 180 < d → p [.i (d - 180)]) (hhi : hi ≤ 360) : Meets Try.prog 37 S37 (snPre hi) snD := by
  refine meets_of_vt (pre := Pt_37 p) (Φ := Ft37) mixed (sgOf_all (l := sg37) ?_) Try.func37 b37 n37 (loops_n 0 k37 fun k hk => by omega) e37 fun ds _ hd => ?_
  · intro e he
    simp only [sg37, List.mem_cons, List.not_mem_nil, or_false] at he
    rcases he with rfl | rfl
    · exact h17
    · exact m41
  · obtain ⟨d, rfl, h0, h1⟩ := hd
    have e37 : Ft37 37 = snD := rfl
    have e41 : Ft37 41 [] = tab.map D.i := fn41_eq
    have p17 : Pt_37 p 37 = p := by funext; simp [Pt_37]
    have p24 : ∀ x, Pt_37 p 41 x := fun x => by simp [Pt_37]
    have hw : IntKind.i64.wrap (d - 180) = d - 180 := w64 (by omega)
    by_cases hlt : 180 < d
    · have hbd := sn_bd (d - 180)
      have hneg : IntKind.i64.wrap (0 - sn (d - 180)) = - sn (d - 180) := by rw [w64 (by omega)]; omega
      have hs : -sn (d - 180) = sn d := by
        have h2 : ¬ 180 < d - 180 := by omega
        simp only [sn, hlt, h2, if_true, if_false]
        congr 2
        omega
      simp only [vt37, VT.ok, Nd.holds, X.outs, X.ds, X.d, Op1.ev, Op2.ev, takeD_zero, takeD_cons, List.cons_append, List.nil_append, List.getD_cons_zero, List.getD_cons_succ, D.int_i, D.bool_b, hlt, decide_true, if_true, hw, e37, snD, hneg, hs, p17]
      exact ⟨fun _ => hp d h0 h1 hlt, trivial⟩
    · have hw2 : IntKind.i64.wrap (180 - d) = 180 - d := w64 (by omega)
      have hm : min d (180 - d) ≤ 90 := by omega
      have hm0 : 0 ≤ min d (180 - d) := by omega
      have ht : takeD 91 (tab.map D.i) = tab.map D.i := by kernel_rfl
      have hs : sn d = tbl (min d (180 - d)) := by simp only [sn, hlt, if_false]
      have hT := tab_at hm0 (by omega)
      unfold vt37
      simp only [VT.ok, X.d, Op2.ev, List.getD_cons_zero, D.int_i, D.bool_b, hlt, decide_false, Bool.false_eq_true, if_false]
      refine ⟨fun _ => p24 _, ?_⟩
      have ho : X.outs Ft37 [D.i d] (.app 41 .nil 0) = tab.map D.i := e41
      rw [ho, ht]
      simp only [Nd.holds, X.d, Op2.ev, List.cons_append, List.getD_cons_zero, D.int_i, D.bool_b, hw2, imin, decide_eq_true_eq]
      refine ⟨fun _ => hm0, fun _ => by omega, ?_⟩
      have hv : ∀ x : X, X.ds Ft37 (D.i d :: ([] ++ tab.map D.i)) x = tab.map D.i → X.ds Ft37 (D.i d :: ([] ++ tab.map D.i)) (.cons (.nth x (.bin .min (.var 0) (.bin (.sub .i64) (.n 180) (.var 0)))) .nil) = snD [.i d] := by
        intro x hx
        simp only [X.ds, X.d, hx, Op2.ev, List.getD_cons_zero, D.int_i, hw2, imin, hT, snD, hs]
      exact hv _ (by kernel_rfl)

theorem m37a : Meets Try.prog 37 S37 (snPre 180) snD := m37_of (meets_none Try.func37 b37 n37) (hi := 180) (fun d h0 h1 h => by omega) (by omega)
theorem m37 : Meets Try.prog 37 S37 (snPre 359) snD := m37_of m37a (hi := 359) (fun d h0 h1 h => ⟨d - 180, rfl, by omega, by omega⟩) (by omega)


def tblD : List D → List D
  | [.i d] => [.i (tbl d)]
  | _ => []
theorem tab2_at {n : Int} (h0 : 0 ≤ n) (h1 : n < 91) : ((tab.map fun x => [D.i x]).getD n.toNat []).getD 0 default = .i (tbl n) := by
  have hl : n.toNat < tab.length := by show n.toNat < 91; omega
  simp [List.getD, hl, tbl]

theorem m42 : Meets Try.prog 42 S42 (snPre 90) tblD := by
  refine meets_of_vt (pre := fun _ _ => True) (Φ := fun _ _ => []) mixed (sgOf_all (pre := fun _ _ => True) (Φ := fun _ _ => []) (l := sg42) (fun e he => by cases he)) Try.func42 b42 n42 (loops_n 0 k42 fun k hk => by omega) e42 fun ds _ hd => ?_
  obtain ⟨d, rfl, h0, h1⟩ := hd
  have key : ∀ x : X, X.d (fun _ _ => []) [D.i d] x = .l (tab.map fun n => [.i n]) →
      VT.ok (fun _ _ => []) [D.i d] (fun _ _ => True) (fun out => out = tblD [.i d]) (.need (.t true) (.c (.bin .le (.n 0) (.var 0))) (.need (.t true) (.c (.bin .lt (.var 0) (.un .len x))) (.ret (.cons (.sel 0 x (.var 0)) .nil)))) := by
    intro x hx
    have hl : ((tab.map fun n => [D.i n]).length : Int) = 91 := rfl
    simp only [VT.ok, Nd.holds, X.ds, X.d, hx, Op1.ev, Op2.ev, List.getD_cons_zero, D.int_i, D.bool_b, D.lst_l, hl, decide_eq_true_eq, tab2_at h0 (show d < 91 by omega), tblD]
    exact ⟨fun _ => h0, fun _ => by omega, trivial⟩
  exact key _ (by kernel_rfl)

def Ft39 : FuncId → List D → List D := tabOf [(39, snD), (42, tblD)]
def Pt_39 (p : List D → Prop) (f : FuncId) (ρ : List D) : Prop := if f = 39 then p ρ else snPre 90 ρ

theorem m39_of {p : List D → Prop} (h19 : Meets Try.prog 39 S39 p snD) {hi : Int} (hp : ∀ d, 0 ≤ d → d ≤ hi → 180 < d → p [.i (d - 180)]) (hhi : hi ≤ 360) : Meets Try.prog 39 S39 (snPre hi) snD := by
  refine meets_of_vt (pre := Pt_39 p) (Φ := Ft39) mixed (sgOf_all (l := sg39) ?_) Try.func39 b39 n39 (loops_n 0 k39 fun k hk => by omega) e39 fun ds _ hd => ?_
  · intro e he
    simp only [sg39, List.mem_cons, List.not_mem_nil, or_false] at he
    rcases he with rfl | rfl
    · exact h19
    · exact m42
  · obtain ⟨d, rfl, h0, h1⟩ := hd
    have e39 : Ft39 39 = snD := rfl
    have e42 : Ft39 42 = tblD := rfl
    have p19 : Pt_39 p 39 = p := by funext; simp [Pt_39]
    have p25 : Pt_39 p 42 = snPre 90 := by funext; simp [Pt_39]
    have hw : IntKind.i64.wrap (d - 180) = d - 180 := w64 (by omega)
    by_cases hlt : 180 < d
    · have hbd := sn_bd (d - 180)
      have hneg : IntKind.i64.wrap (0 - sn (d - 180)) = - sn (d - 180) := by rw [w64 (by omega)]; omega
      have hs : -sn (d - 180) = sn d := by
        have h2 : ¬ 180 < d - 180 := by omega
        simp only [sn, hlt, h2, if_true, if_false]
        congr 2
        omega
      simp only [vt39, VT.ok, Nd.holds, X.outs, X.ds, X.d, Op1.ev, Op2.ev, takeD_zero, takeD_cons, List.cons_append, List.nil_append, List.getD_cons_zero, List.getD_cons_succ, D.int_i, D.bool_b, hlt, decide_true, if_true, hw, e39, snD, hneg, hs, p19]
      exact ⟨fun _ => hp d h0 h1 hlt, trivial⟩
    · have hw2 : IntKind.i64.wrap (180 - d) = 180 - d := w64 (by omega)
      by_cases h90 : 90 < d
      · have hs : sn d = tbl (180 - d) := by
          simp only [sn, hlt, if_false]
          congr 1
          omega
        simp only [vt39, VT.ok, Nd.holds, X.outs, X.ds, X.d, Op1.ev, Op2.ev, takeD_zero, takeD_cons, List.cons_append, List.nil_append, List.getD_cons_zero, List.getD_cons_succ, D.int_i, D.bool_b, hlt, h90, decide_true, decide_false, Bool.false_eq_true, if_true, if_false, hw2, e42, tblD, snD, hs, p25]
        exact ⟨fun _ => ⟨_, rfl, by omega, by omega⟩, trivial⟩
      · have hs : sn d = tbl d := by
          simp only [sn, hlt, if_false]
          congr 1
          omega
        simp only [vt39, VT.ok, Nd.holds, X.outs, X.ds, X.d, Op1.ev, Op2.ev, takeD_zero, takeD_cons, List.cons_append, List.nil_append, List.getD_cons_zero, List.getD_cons_succ, D.int_i, D.bool_b, hlt, h90, decide_false, Bool.false_eq_true, if_false, e42, tblD, snD, hs, p25]
        exact ⟨fun _ => ⟨_, rfl, by omega, by omega⟩, trivial⟩

theorem m39a : Meets Try.prog 39 S39 (snPre 180) snD := m39_of (meets_none Try.func39 b39 n39) (hi := 180) (fun d h0 h1 h => by omega) (by omega)
theorem m39 : Meets Try.prog 39 S39 (snPre 359) snD := m39_of m39a (hi := 359) (fun d h0 h1 h => ⟨d - 180, rfl, by omega, by omega⟩) (by omega)

/-! ### angles -/
theorem i64_of {S : Sig} {ds : List D} (hf : Fits S.ps ds) (hs : flatCts S.ps = [.int .i64]) : ∃ d : Int, ds = [.i d] ∧ -9223372036854775808 ≤ d ∧ d ≤ 9223372036854775807 := by
  have h := hf.flat
  rw [hs] at h
  match ds, h with
  | [d0], ⟨h0, _⟩ =>
    obtain ⟨d, rfl, h1⟩ := wf_i64 h0
    exact ⟨d, rfl, h1⟩

def trnD : List D → List D
  | [.i d] => [.i (d % 360)]
  | _ => []
theorem fn38_eq {ds : List D} (hf : Fits S38.ps ds) : fn38 ds = trnD ds := by
  obtain ⟨d, rfl, h1, h2⟩ := i64_of (S := S38) hf rfl
  simp only [fn38, vt38, VT.val, X.ds, X.d, Op2.ev, List.getD_cons_zero, D.int_i, D.bool_b, tmod_lit d 360 (by omega), trnD, decide_eq_true_eq]
  by_cases h : d < 0
  · simp only [h, if_true]
    have e1 : IntKind.i64.wrap (-((-d) % 360) + 360) = -((-d) % 360) + 360 := w64 (by omega)
    simp only [e1]
    split <;> (congr 2; omega)
  · simp only [h, if_false]
    split
    · omega
    · rfl
theorem m38' : Meets Try.prog 38 S38 (fun _ => True) trnD := m38.to fun _ds hf _ => ⟨trivial, fn38_eq hf⟩
theorem fn40_eq {ds : List D} (hf : Fits S40.ps ds) : fn40 ds = trnD ds := by
  obtain ⟨d, rfl, h1, h2⟩ := i64_of (S := S40) hf rfl
  have e0 : -360 < d.tmod 360 ∧ d.tmod 360 < 360 := by rw [tmod_lit d 360 (by omega)]; omega
  have e1 : IntKind.i64.wrap (d.tmod 360 + 360) = d.tmod 360 + 360 := w64 (by omega)
  simp only [fn40, vt40, VT.val, X.ds, X.d, Op2.ev, List.getD_cons_zero, D.int_i, e1, trnD]
  rw [tmod_lit (d.tmod 360 + 360) 360 (by omega), if_neg (by omega), tmod_lit d 360 (by omega)]
  congr 2
  omega
theorem m40' : Meets Try.prog 40 S40 (fun _ => True) trnD := m40.to fun _ds hf _ => ⟨trivial, fn40_eq hf⟩

def si (d : Int) : Int := sn (d % 360)
def co (d : Int) : Int := sn ((d % 360 + 90) % 360)
theorem si_bd (d : Int) : -10000 ≤ si d ∧ si d ≤ 10000 := sn_bd _
theorem co_bd (d : Int) : -10000 ≤ co d ∧ co d ≤ 10000 := sn_bd _
def siD : List D → List D
  | [.i d] => [.i (si d)]
  | _ => []
def coD : List D → List D
  | [.i d] => [.i (co d)]
  | _ => []

def FA : FuncId → List D → List D := tabOf [(38, trnD), (37, snD), (40, trnD), (39, snD)]
def PA (f : FuncId) (ρ : List D) : Prop := if f = 37 then snPre 359 ρ else if f = 39 then snPre 359 ρ else True
theorem hMA {l : List (FuncId × Sig)} (h : ∀ e ∈ l, e = (38, S38) ∨ e = (37, S37) ∨ e = (40, S40) ∨ e = (39, S39)) : ∀ f S, sgOf l f = some S → MeetsAt Try.prog f S PA FA := sgOf_all (l := l) (by
  intro e he
  rcases h e he with rfl | rfl | rfl | rfl
  · exact m38'
  · exact m37
  · exact m40'
  · exact m39) (by
  rw [List.all_eq_true]
  intro e he
  rcases h e he with rfl | rfl | rfl | rfl <;> rfl)
theorem PA_37 : PA 37 = snPre 359 := by funext; simp [PA]
theorem PA_39 : PA 39 = snPre 359 := by funext; simp [PA]
theorem PA_38 (x : List D) : PA 38 x := by simp [PA]
theorem PA_40 (x : List D) : PA 40 x := by simp [PA]

theorem m32 : Meets Try.prog 32 S32 (fun _ => True) siD := by
  refine meets_of_vt (pre := PA) (Φ := FA) mixed (hMA (l := sg32) (by simp [sg32])) Try.func32 b32 n32 (loops_n 0 k32 fun k hk => by omega) e32 fun ds hf _ => ?_
  obtain ⟨d, rfl, h1, h2⟩ := i64_of (S := S32) hf rfl
  simp only [vt32, VT.ok, Nd.holds, X.outs, X.ds, X.d, takeD_zero, takeD_cons, List.cons_append, List.nil_append, List.getD_cons_zero, List.getD_cons_succ, show FA 38 = trnD from rfl, show FA 37 = snD from rfl, trnD, snD, PA_37]
  exact ⟨fun _ => PA_38 _, fun _ => ⟨_, rfl, by omega, by omega⟩, rfl⟩
theorem m36 : Meets Try.prog 36 S36 (fun _ => True) siD := by
  refine meets_of_vt (pre := PA) (Φ := FA) mixed (hMA (l := sg36) (by simp [sg36])) Try.func36 b36 n36 (loops_n 0 k36 fun k hk => by omega) e36 fun ds hf _ => ?_
  obtain ⟨d, rfl, h1, h2⟩ := i64_of (S := S36) hf rfl
  simp only [vt36, VT.ok, Nd.holds, X.outs, X.ds, X.d, takeD_zero, takeD_cons, List.cons_append, List.nil_append, List.getD_cons_zero, List.getD_cons_succ, show FA 40 = trnD from rfl, show FA 39 = snD from rfl, trnD, snD, PA_39]
  exact ⟨fun _ => PA_40 _, fun _ => ⟨_, rfl, by omega, by omega⟩, rfl⟩
theorem m31 : Meets Try.prog 31 S31 (fun _ => True) coD := by
  refine meets_of_vt (pre := PA) (Φ := FA) mixed (hMA (l := sg31) (by simp [sg31])) Try.func31 b31 n31 (loops_n 0 k31 fun k hk => by omega) e31 fun ds hf _ => ?_
  obtain ⟨d, rfl, h1, h2⟩ := i64_of (S := S31) hf rfl
  have e1 : IntKind.i64.wrap (d % 360 + 90) = d % 360 + 90 := w64 (by omega)
  simp only [vt31, VT.ok, Nd.holds, X.outs, X.ds, X.d, Op2.ev, takeD_zero, takeD_cons, List.cons_append, List.nil_append, List.getD_cons_zero, List.getD_cons_succ, D.int_i, show FA 38 = trnD from rfl, show FA 37 = snD from rfl, trnD, snD, PA_37, e1]
  exact ⟨fun _ => PA_38 _, fun _ => PA_38 _, fun _ => ⟨_, rfl, by omega, by omega⟩, rfl⟩
theorem m35 : Meets Try.prog 35 S35 (fun _ => True) coD := by
  refine meets_of_vt (pre := PA) (Φ := FA) mixed (hMA (l := sg35) (by simp [sg35])) Try.func35 b35 n35 (loops_n 0 k35 fun k hk => by omega) e35 fun ds hf _ => ?_
  obtain ⟨d, rfl, h1, h2⟩ := i64_of (S := S35) hf rfl
  have e1 : IntKind.i64.wrap (d % 360 + 90) = d % 360 + 90 := w64 (by omega)
  simp only [vt35, VT.ok, Nd.holds, X.outs, X.ds, X.d, Op2.ev, takeD_zero, takeD_cons, List.cons_append, List.nil_append, List.getD_cons_zero, List.getD_cons_succ, D.int_i, show FA 40 = trnD from rfl, show FA 39 = snD from rfl, trnD, snD, PA_39, e1]
  exact ⟨fun _ => PA_40 _, fun _ => PA_40 _, fun _ => ⟨_, rfl, by omega, by omega⟩, rfl⟩

/-! ### products by a sine -/
def rnd (n : Int) : Int := if n < 0 then -((-n + 5000) / 10000) else (n + 5000) / 10000
def sclD : List D → List D
  | [.i r, .i s] => [.i (rnd (r * s))]
  | _ => []
def sclPre (lo : Int) (ds : List D) : Prop := ∃ r s, ds = [.i r, .i s] ∧ 0 ≤ r ∧ r ≤ 1048576 ∧ lo ≤ s ∧ s ≤ 10000

theorem fn30_eq {r s : Int} (h : 0 ≤ r ∧ r ≤ 1048576) (k : -10000 ≤ s ∧ s ≤ 10000) : fn30 [.i r, .i s] = sclD [.i r, .i s] := by
  have hb := mul_bd (a := r) (b := s) (p := 1048576) (q := 10000) (by omega) k
  have e1 : IntKind.i64.wrap (r * s) = r * s := w64 (by omega)
  have e2 : IntKind.i64.wrap (0 - r * s) = -(r * s) := by rw [w64 (by omega)]; omega
  have e3 : IntKind.i64.wrap (-(r * s) + 5000) = -(r * s) + 5000 := w64 (by omega)
  have e4 : IntKind.i64.wrap (r * s + 5000) = r * s + 5000 := w64 (by omega)
  simp only [fn30, vt30, VT.val, X.ds, X.d, Op1.ev, Op2.ev, List.getD_cons_zero, List.getD_cons_succ, D.int_i, D.bool_b, decide_eq_true_eq, e1, e2, e3, e4, sclD, rnd]
  generalize hn : r * s = n at *
  split
  · rw [tdiv_lit _ _ (by omega), if_neg (by omega), w64 (n := (-n + 5000) / 10000) (by omega), w64 (by omega)]
    congr 2; omega
  · rw [tdiv_lit _ _ (by omega), if_neg (by omega), w64 (by omega)]
theorem m30' : Meets Try.prog 30 S30 (sclPre (-10000)) sclD := m30.to fun ds hf hp => by
  obtain ⟨r, s, rfl, h0, h1, h2, h3⟩ := hp
  exact ⟨trivial, fn30_eq ⟨h0, h1⟩ ⟨h2, h3⟩⟩

theorem m34_of {p : List D → Prop} (h23 : Meets Try.prog 34 S34 p sclD) {lo : Int} (hlo : -10000 ≤ lo) (hp : ∀ r s, 0 ≤ r → r ≤ 1048576 → lo ≤ s → s < 0 → p [.i r, .i (-s)]) : Meets Try.prog 34 S34 (sclPre lo) sclD := by
  refine meets_of_vt (pre := fun _ => p) (Φ := fun _ => sclD) mixed (sgOf_all (pre := fun _ => p) (Φ := fun _ => sclD) (l := sg34) ?_) Try.func34 b34 n34 (loops_n 0 k34 fun k hk => by omega) e34 fun ds _ hd => ?_
  · intro e he
    simp only [sg34, List.mem_cons, List.not_mem_nil, or_false] at he
    subst he
    exact h23
  · obtain ⟨r, s, rfl, h0, h1, h2, h3⟩ := hd
    have hb := mul_bd (a := r) (b := s) (p := 1048576) (q := 10000) (by omega) (by omega)
    by_cases hs : s < 0
    · have e1 : IntKind.i64.wrap (0 - s) = -s := by rw [w64 (by omega)]; omega
      have hm : r * -s = -(r * s) := Int.mul_neg ..
      have hr : IntKind.i64.wrap (0 - rnd (r * -s)) = rnd (r * s) := by
        rw [hm]
        have hle : r * s ≤ 0 := Int.mul_nonpos_of_nonneg_of_nonpos h0 (by omega)
        generalize r * s = n at *
        have : rnd (-n) = -rnd n := by simp only [rnd]; split <;> split <;> omega
        rw [this, w64 (by simp only [rnd]; split <;> omega)]
        omega
      simp only [vt34, VT.ok, Nd.holds, X.outs, X.ds, X.d, Op1.ev, Op2.ev, takeD_zero, takeD_cons, List.cons_append, List.nil_append, List.getD_cons_zero, List.getD_cons_succ, D.int_i, D.bool_b, hs, decide_true, if_true, e1, sclD, hr]
      exact ⟨fun _ => hp r s h0 h1 h2 hs, trivial⟩
    · have hge : 0 ≤ r * s := Int.mul_nonneg h0 (by omega)
      have e1 : IntKind.i64.wrap (r * s) = r * s := w64 (by omega)
      have e4 : IntKind.i64.wrap (r * s + 5000) = r * s + 5000 := w64 (by omega)
      simp only [vt34, VT.ok, X.ds, X.d, Op2.ev, List.getD_cons_zero, List.getD_cons_succ, D.int_i, D.bool_b, hs, decide_false, Bool.false_eq_true, if_false, e1, e4, sclD, rnd]
      generalize r * s = n at *
      rw [if_neg (by omega), tdiv_lit _ _ (by omega), if_neg (by omega), w64 (by omega)]
theorem m34a : Meets Try.prog 34 S34 (sclPre 0) sclD := m34_of (meets_none Try.func34 b34 n34) (by omega) fun r s h0 h1 h2 h3 => by omega
theorem m34 : Meets Try.prog 34 S34 (sclPre (-10000)) sclD := m34_of m34a (by omega) fun r s h0 h1 h2 h3 => ⟨r, -s, rfl, h0, h1, by omega, by omega⟩


theorem pv_spec {x y : Int} (h : pv x y = true) : -268435456 ≤ x ∧ x ≤ 268435456 ∧ -268435456 ≤ y ∧ y ≤ 268435456 := by
  simp only [pv, Bool.and_eq_true, decide_eq_true_eq] at h
  omega

def polOk (x y r : Int) : Bool := pv x y && decide (0 ≤ r) && decide (r ≤ 1048576)
def pol (x y r d : Int) : Int × Int := if polOk x y r = true ∧ pv (x + rnd (r * co d)) (y + rnd (r * si d)) = true then (x + rnd (r * co d), y + rnd (r * si d)) else (0, 0)
def polD : List D → List D
  | [.i x, .i y, .i r, .i d] => [.i (pol x y r d).1, .i (pol x y r d).2]
  | _ => []

theorem rnd_bd {r s : Int} (h : 0 ≤ r ∧ r ≤ 1048576) (k : -10000 ≤ s ∧ s ≤ 10000) : -r ≤ rnd (r * s) ∧ rnd (r * s) ≤ r := by
  have h1 : r * s ≤ r * 10000 := Int.mul_le_mul_of_nonneg_left k.2 h.1
  have h2 : r * -10000 ≤ r * s := Int.mul_le_mul_of_nonneg_left k.1 h.1
  generalize r * s = n at *
  simp only [rnd]
  split <;> omega

theorem d4_of {S : Sig} {ds : List D} (hf : Fits S.ps ds) (hs : flatCts S.ps = [.int .i64, .int .i64, .int .i64, .int .i64]) : ∃ a b c d : Int, ds = [.i a, .i b, .i c, .i d] ∧ (-9223372036854775808 ≤ d ∧ d ≤ 9223372036854775807) := by
  have h := hf.flat
  rw [hs] at h
  match ds, h with
  | [d0, d1, d2, d3], ⟨h0, h1, h2, h3, _⟩ =>
    obtain ⟨a, rfl, _⟩ := wf_i64 h0
    obtain ⟨b, rfl, _⟩ := wf_i64 h1
    obtain ⟨c, rfl, _⟩ := wf_i64 h2
    obtain ⟨d, rfl, h4⟩ := wf_i64 h3
    exact ⟨a, b, c, d, rfl, h4⟩

theorem pol_cond (p : Bool) (r : Int) : ((!p || decide (r < 0)) || decide (1048576 < r)) = !(p && decide (0 ≤ r) && decide (r ≤ 1048576)) := by
  cases p
  · rfl
  · by_cases h1 : r < 0
    · have : ¬ 0 ≤ r := by omega
      simp [h1, this]
    · have : 0 ≤ r := by omega
      by_cases h2 : 1048576 < r
      · have h3 : ¬ r ≤ 1048576 := by omega
        simp [h2, h3]
      · have h3 : r ≤ 1048576 := by omega
        simp [h1, h2, h3, this]

def FB : FuncId → List D → List D := tabOf [(29, fn29), (33, fn33), (31, coD), (35, coD), (30, sclD), (34, sclD), (32, siD), (36, siD)]
def PB (f : FuncId) (ρ : List D) : Prop := if f = 30 then sclPre (-10000) ρ else if f = 34 then sclPre (-10000) ρ else True
theorem PB_30 : PB 30 = sclPre (-10000) := by funext; simp [PB]
theorem PB_34 : PB 34 = sclPre (-10000) := by funext; simp [PB]
theorem PB_t {f : FuncId} (x : List D) (h1 : f ≠ 30) (h2 : f ≠ 34) : PB f x := by simp [PB, h1, h2]

theorem m27 : Meets Try.prog 27 S27 (fun _ => True) polD := by
  refine meets_of_vt (pre := PB) (Φ := FB) mixed (sgOf_all (l := sg27) ?_) Try.func27 b27 n27 (loops_n 0 k27 fun k hk => by omega) e27 fun ds hf _ => ?_
  · intro e he
    simp only [sg27, List.mem_cons, List.not_mem_nil, or_false] at he
    rcases he with rfl | rfl | rfl | rfl
    · exact m29
    · exact m31
    · exact m30'
    · exact m32
  · obtain ⟨x, y, r, d, rfl, hd⟩ := d4_of (S := S27) hf rfl
    simp only [vt27, VT.ok, Nd.holds, X.outs, X.ds, X.d, Op1.ev, Op2.ev, takeD_zero, takeD_cons, List.cons_append, List.nil_append, List.getD_cons_zero, List.getD_cons_succ, D.int_i, D.bool_b, ite_b, ite_or, show FB 29 = fn29 from rfl, show FB 31 = coD from rfl, show FB 30 = sclD from rfl, show FB 32 = siD from rfl, fn29_eq, coD, siD, sclD, PB_30, pol_cond]
    refine ⟨fun _ => PB_t _ (by decide) (by decide), ?_⟩
    cases hok : polOk x y r with
    | false =>
      have hok' : (pv x y && decide (0 ≤ r) && decide (r ≤ 1048576)) = false := hok
      simp only [hok', Bool.not_false, if_true, polD, pol, hok, Bool.false_eq_true, false_and, if_false]
    | true =>
      have hok' : (pv x y && decide (0 ≤ r) && decide (r ≤ 1048576)) = true := hok
      have hr := hok'
      simp only [Bool.and_eq_true, decide_eq_true_eq] at hr
      have hp := pv_spec hr.1.1
      have b1 := rnd_bd ⟨hr.1.2, hr.2⟩ (co_bd d)
      have b2 := rnd_bd ⟨hr.1.2, hr.2⟩ (si_bd d)
      have c1 := co_bd d
      have c2 := si_bd d
      have w1 : IntKind.i64.wrap (x + rnd (r * co d)) = x + rnd (r * co d) := w64 (by omega)
      have w2 : IntKind.i64.wrap (y + rnd (r * si d)) = y + rnd (r * si d) := w64 (by omega)
      simp only [hok', Bool.not_true, Bool.false_eq_true, if_false, w1, w2]
      refine ⟨fun _ => PB_t _ (by decide) (by decide), fun _ => ⟨_, _, rfl, hr.1.2, hr.2, c1⟩, fun _ => PB_t _ (by decide) (by decide), fun _ => ⟨_, _, rfl, hr.1.2, hr.2, c2⟩, fun _ => PB_t _ (by decide) (by decide), ?_⟩
      cases hq : pv (x + rnd (r * co d)) (y + rnd (r * si d)) with
      | false => simp only [Bool.not_false, if_true, polD, pol, hq, Bool.false_eq_true, and_false, if_false]
      | true => simp only [Bool.not_true, Bool.false_eq_true, if_false, polD, pol, hq, hok, and_self, if_true]

theorem m28 : Meets Try.prog 28 S28 (fun _ => True) polD := by
  refine meets_of_vt (pre := PB) (Φ := FB) mixed (sgOf_all (l := sg28) ?_) Try.func28 b28 n28 (loops_n 0 k28 fun k hk => by omega) e28 fun ds hf _ => ?_
  · intro e he
    simp only [sg28, List.mem_cons, List.not_mem_nil, or_false] at he
    rcases he with rfl | rfl | rfl | rfl
    · exact m33
    · exact m35
    · exact m34
    · exact m36
  · obtain ⟨x, y, r, d, rfl, hd⟩ := d4_of (S := S28) hf rfl
    simp only [vt28, VT.ok, Nd.holds, X.outs, X.ds, X.d, Op1.ev, Op2.ev, takeD_zero, takeD_cons, List.cons_append, List.nil_append, List.getD_cons_zero, List.getD_cons_succ, D.int_i, D.bool_b, ite_b, ite_or, show FB 33 = fn33 from rfl, show FB 35 = coD from rfl, show FB 34 = sclD from rfl, show FB 36 = siD from rfl, fn33_eq, coD, siD, sclD, PB_34, pol_cond]
    refine ⟨fun _ => PB_t _ (by decide) (by decide), ?_⟩
    cases hok : polOk x y r with
    | false =>
      have hok' : (pv x y && decide (0 ≤ r) && decide (r ≤ 1048576)) = false := hok
      simp only [hok', Bool.not_false, if_true, polD, pol, hok, Bool.false_eq_true, false_and, if_false]
    | true =>
      have hok' : (pv x y && decide (0 ≤ r) && decide (r ≤ 1048576)) = true := hok
      have hr := hok'
      simp only [Bool.and_eq_true, decide_eq_true_eq] at hr
      have hp := pv_spec hr.1.1
      have b1 := rnd_bd ⟨hr.1.2, hr.2⟩ (co_bd d)
      have b2 := rnd_bd ⟨hr.1.2, hr.2⟩ (si_bd d)
      have c1 := co_bd d
      have c2 := si_bd d
      have w1 : IntKind.i64.wrap (x + rnd (r * co d)) = x + rnd (r * co d) := w64 (by omega)
      have w2 : IntKind.i64.wrap (y + rnd (r * si d)) = y + rnd (r * si d) := w64 (by omega)
      simp only [hok', Bool.not_true, Bool.false_eq_true, if_false, w1, w2]
      refine ⟨fun _ => PB_t _ (by decide) (by decide), fun _ => ⟨_, _, rfl, hr.1.2, hr.2, c1⟩, fun _ => PB_t _ (by decide) (by decide), fun _ => ⟨_, _, rfl, hr.1.2, hr.2, c2⟩, fun _ => PB_t _ (by decide) (by decide), ?_⟩
      cases hq : pv (x + rnd (r * co d)) (y + rnd (r * si d)) with
      | false => simp only [Bool.not_false, if_true, polD, pol, hq, Bool.false_eq_true, and_false, if_false]
      | true => simp only [Bool.not_true, Bool.false_eq_true, if_false, polD, pol, hq, hok, and_self, if_true]


end Go.Proofs.Ytdehhmcfhaeheaa.rv
