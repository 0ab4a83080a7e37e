/-
  Packing: boxes on shelves have their sizes, begin at the origin, and are apart by the gap; unions: plain facts.; Packed texts, free places: plain definitions and closed forms.
-/
import Derived.Test.YtoajdhghecjdlaaZTopPackedH
namespace Go.RV
open Go.RowKit
def aprt (g : Int) (a b : Bx) : Prop := a.2.2.1 + g ≤ b.1 ∨ a.2.2.2 + g ≤ b.2.1
def szd (p : Pt) (q : Bx) : Prop := q.2.2.1 = q.1 + p.1 ∧ q.2.2.2 = q.2.1 + p.2 ∧ (0 ≤ q.1 ∧ q.1 ≤ 134217728) ∧ 0 ≤ q.2.1 ∧ q.2.1 ≤ 134217728
def szds : List Pt → List Bx → Prop
  | [], [] => True
  | p :: ps, q :: qs => szd p q ∧ szds ps qs
  | _, _ => False
theorem szds_len : ∀ {ps : List Pt} {qs : List Bx}, szds ps qs → qs.length = ps.length
  | [], [], _ => rfl
  | _ :: _, _ :: _, h => by simp [szds_len h.2]
theorem szds_app : ∀ {ps ps' : List Pt} {qs qs' : List Bx}, szds ps qs → szds ps' qs' → szds (ps ++ ps') (qs ++ qs')
  | [], _, [], _, _, h' => h'
  | _ :: _, _, _ :: _, _, h, h' => ⟨h.1, szds_app h.2 h'⟩
theorem szds_get : ∀ {ps : List Pt} {qs : List Bx}, szds ps qs → ∀ i, i < ps.length → szd (ps.getD i pz) (qs.getD i z4)
  | p :: ps, q :: qs, h, 0, _ => by simpa using h.1
  | p :: ps, q :: qs, h, i + 1, hi => by simpa using szds_get h.2 i (by simpa using hi)
theorem szds_mem : ∀ {ps : List Pt} {qs : List Bx}, szds ps qs → ∀ q ∈ qs, ∃ p ∈ ps, szd p q
  | [], [], _, _, hr => by cases hr
  | [], _ :: _, h, _, _ => h.elim
  | _ :: _, [], h, _, _ => h.elim
  | p :: ps, q :: qs, h, r, hr => by
    cases hr with
    | head => exact ⟨p, by simp, h.1⟩
    | tail _ hr =>
      obtain ⟨p', h1, h2⟩ := szds_mem h.2 r hr
      exact ⟨p', by simp [h1], h2⟩
structure ShI (g x y low : Int) (dn : List Pt) (acc : List Bx) : Prop where
  sz : szds dn acc
  ap : acc.Pairwise (aprt g)
  lo : ∀ q ∈ acc, q.2.2.2 ≤ low ∧ (q.2.2.1 + g ≤ x ∨ q.2.2.2 + g ≤ y)
  x0 : 0 ≤ x ∧ x ≤ dn.length * 2097152
  y0 : 0 ≤ y ∧ y ≤ dn.length * 2097152
  l0 : 0 ≤ low ∧ low ≤ dn.length * 2097152
  st : (acc = [] → x = 0 ∧ y = 0) ∧ (acc ≠ [] → (acc.getD 0 z4).1 = 0 ∧ (acc.getD 0 z4).2.1 = 0)
theorem ShI.put {g x y low x' y' low' : Int} {dn : List Pt} {acc : List Bx} (h : ShI g x y low dn acc) {p : Pt} (hp : (0 ≤ p.1 ∧ p.1 ≤ 1048576) ∧ 0 ≤ p.2 ∧ p.2 ≤ 1048576) (hl : dn.length < 64) {a b : Int} (ha : 0 ≤ a ∧ a ≤ dn.length * 2097152) (hb : 0 ≤ b ∧ b ≤ (dn.length + 1) * 2097152 - 1048576)
    (hn : ∀ q ∈ acc, aprt g q (a, b, a + p.1, b + p.2)) (hst : acc = [] → a = 0 ∧ b = 0)
    (h1 : ∀ q ∈ acc, q.2.2.2 ≤ low' ∧ (q.2.2.1 + g ≤ x' ∨ q.2.2.2 + g ≤ y')) (h2 : b + p.2 ≤ low' ∧ (a + p.1 + g ≤ x' ∨ b + p.2 + g ≤ y'))
    (hx : 0 ≤ x' ∧ x' ≤ (dn.length + 1) * 2097152) (hy : 0 ≤ y' ∧ y' ≤ (dn.length + 1) * 2097152) (hw : 0 ≤ low' ∧ low' ≤ (dn.length + 1) * 2097152) :
    ShI g x' y' low' (dn ++ [p]) (acc ++ [(a, b, a + p.1, b + p.2)]) where
  sz := szds_app h.sz ⟨⟨rfl, rfl, by simp only; omega, by simp only; omega⟩, trivial⟩
  ap := by
    rw [List.pairwise_append]
    exact ⟨h.ap, List.pairwise_singleton _ _, fun q hq r hr => by
      simp only [List.mem_singleton] at hr
      subst hr
      exact hn q hq⟩
  lo := fun q hq => by
    rcases List.mem_append.1 hq with hq | hq
    · exact h1 q hq
    · simp only [List.mem_singleton] at hq
      subst hq
      exact h2
  x0 := by rw [List.length_append]; simp only [List.length_singleton]; omega
  y0 := by rw [List.length_append]; simp only [List.length_singleton]; omega
  l0 := by rw [List.length_append]; simp only [List.length_singleton]; omega
  st := by
    refine ⟨fun hc => by simp at hc, fun _ => ?_⟩
    cases acc with
    | nil => simpa using hst rfl
    | cons q qs => simpa using h.st.2 (by simp)
theorem shelF_spec (w g : Int) (hg : 0 ≤ g ∧ g ≤ 1048576) : ∀ (l : List Pt) (f : Bool) (x y low : Int) (dn : List Pt) (acc : List Bx), szOk l → dn.length + l.length ≤ 64 → (f = false → dn ≠ []) → ShI g x y low dn acc →
    ∃ x' y' low', ShI g x' y' low' (dn ++ l) (shelF w g f x y low acc l).2.2.2
  | [], f, x, y, low, dn, acc, hs, hl, hf, h => ⟨x, y, low, by rw [List.append_nil]; exact h⟩
  | p :: ps, f, x, y, low, dn, acc, hs, hl, hf, h => by
    have hp := hs p (by simp)
    have hps : szOk ps := fun q hq => hs q (by simp [hq])
    have hx := h.x0; have hy := h.y0; have hlo := h.l0
    simp only [List.length_cons] at hl
    have he : dn ++ p :: ps = (dn ++ [p]) ++ ps := by simp
    have hlen : (dn ++ [p]).length + ps.length ≤ 64 := by rw [List.length_append]; simp only [List.length_singleton]; omega
    rw [he]
    unfold shelF
    split
    · rename_i hc
      have hfalse : f = false := by
        cases f
        · rfl
        · simp at hc
      refine shelF_spec w g hg ps false _ _ _ (dn ++ [p]) _ hps hlen (fun _ => by simp) ?_
      have := h.put (x' := p.1 + g) (y' := low + g) (low' := max (low + g) (low + g + p.2)) hp (by omega) (a := 0) (b := low + g) (by omega) (by omega)
        (fun q hq => .inr (by have := (h.lo q hq).1; simp only; omega))
        (fun hn => by
          subst hn
          have hd := h.sz
          cases dn with
          | nil => exact absurd rfl (hf hfalse)
          | cons _ _ => exact hd.elim)
        (fun q hq => by have := (h.lo q hq).1; omega) (by omega) (by omega) (by omega) (by omega)
      rw [Int.zero_add] at this
      exact this
    · refine shelF_spec w g hg ps false _ _ _ (dn ++ [p]) _ hps hlen (fun _ => by simp) ?_
      refine h.put hp (by omega) (a := x) (b := y) hx (by omega) (fun q hq => ?_) (fun hn => h.st.1 hn) (fun q hq => ?_) (by omega) (by omega) (by omega) (by omega)
      · rcases (h.lo q hq).2 with h1 | h1
        · exact .inl h1
        · exact .inr h1
      · have := h.lo q hq
        omega
theorem shel_spec {l : List Pt} {w g : Int} (hg : 0 ≤ g ∧ g ≤ 1048576) (hs : szOk l) (hl : l.length ≤ 64) : szds l (shel w g l) ∧ (shel w g l).Pairwise (aprt g) ∧ (0 < l.length → ((shel w g l).getD 0 z4).1 = 0 ∧ ((shel w g l).getD 0 z4).2.1 = 0) := by
  obtain ⟨x, y, low, h⟩ := shelF_spec w g hg l true 0 0 0 [] [] hs (by simpa using hl) (fun h => by cases h) ⟨trivial, List.Pairwise.nil, fun _ h => (by cases h), ⟨by omega, by simp⟩, ⟨by omega, by simp⟩, ⟨by omega, by simp⟩, ⟨fun _ => ⟨rfl, rfl⟩, fun hc => absurd rfl hc⟩⟩
  rw [List.nil_append] at h
  refine ⟨h.sz, h.ap, fun h0 => ?_⟩
  have hlen := szds_len h.sz
  refine h.st.2 fun hn => ?_
  rw [hn] at hlen
  simp at hlen
  omega
theorem best_spec {l : List Pt} {g : Int} (h : cerr l 0 g = 0) : szds l (best l g) ∧ (best l g).Pairwise (aprt g) ∧ (0 < l.length → ((best l g).getD 0 z4).1 = 0 ∧ ((best l g).getD 0 z4).2.1 = 0) := by
  obtain ⟨h1, _, h3, h4⟩ := cerr_ok h
  obtain ⟨v, e⟩ := best_shel l g
  rw [e]
  exact shel_spec h3 h1 h4
theorem szd_ok {p : Pt} {q : Bx} (h : szd p q) (hp : (0 ≤ p.1 ∧ p.1 ≤ 1048576) ∧ 0 ≤ p.2 ∧ p.2 ≤ 1048576) : bxQ q = true := by
  unfold szd at h
  simp only [bxQ, bxB_iff]
  omega
theorem best_ok {l : List Pt} {g : Int} (h : cerr l 0 g = 0) {q : Bx} (hq : q ∈ best l g) : bxQ q = true := by
  obtain ⟨p, hp, h2⟩ := szds_mem (best_spec h).1 q hq
  exact szd_ok h2 ((cerr_ok h).1 p hp)
end Go.RV
namespace Go.RV
open Go.RowKit
def dyIn (ds : List D) : List D := [.b (decide (cI ds 1 < 0) || decide (1048576 < cI ds 1))]
def dpIn (f : FuncId) (ds : List D) : Prop := ∃ a : D, ds = [.c f [] [], a]
def ctQ : List CT := [.pt [.int .i64, .int .i64, .int .i64, .int .i64]]
def dyOv (ds : List D) : List D := match ds.getD 0 default with
  | .c _ _ [.p q] => [.b (ovQ (rQ q 0) (rQ ds 1))]
  | _ => []
def dpOv (f : FuncId) (ds : List D) : Prop := ∃ r q : Bx, ds = [.c f ctQ [.p (encQ r)], .i q.1, .i q.2.1, .i q.2.2.1, .i q.2.2.2]
def sz3 (w h g : Int) : Bool := decide (0 ≤ w) && decide (w ≤ 1048576) && decide (0 ≤ h) && decide (h ≤ 1048576) && decide (0 ≤ g) && decide (g ≤ 1048576)
theorem sz3_iff {w h g : Int} : sz3 w h g = true ↔ (0 ≤ w ∧ w ≤ 1048576) ∧ (0 ≤ h ∧ h ≤ 1048576) ∧ 0 ≤ g ∧ g ≤ 1048576 := by
  simp only [sz3, Bool.and_eq_true, decide_eq_true_eq]; omega
def badI (n : Int) : Bool := decide (n < 0) || decide (1048576 < n)
theorem sz3_bad {w h g : Int} : sz3 w h g = !(badI w || (badI h || (badI g || false))) := by
  rw [Bool.eq_iff_iff, sz3_iff]
  simp only [badI, Bool.not_eq_true', Bool.or_eq_false_iff, decide_eq_false_iff_not, and_true]; omega
def szD (ds : List D) : List D := [.b (!anyN (fun j => badI (cI (el (cL ds 0) j) 0)) (cL ds 0).length)]
def plc (b : Bx) (w h g k : Int) : Bx :=
  let x := if 5 ≤ k then b.1 - g - w else if 1 ≤ k ∧ k ≤ 3 then b.2.2.1 + g else (b.1 + b.2.2.1) / 2 - w / 2
  let y := if 3 ≤ k ∧ k ≤ 5 then b.2.2.2 + g else if k = 2 ∨ k = 6 then (b.2.1 + b.2.2.2) / 2 - h / 2 else b.2.1 - g - h
  (x, y, x + w, y + h)
def putf (q : Bx) : List Bx := if bxQ q = true then [q] else []
theorem putf_len (q : Bx) : (putf q).length ≤ 1 := by unfold putf; split <;> simp
def arnd (b : Bx) (w h g : Int) : List Bx := if (bxQ b && sz3 w h g) = true then collN (fun k => putf (plc b w h g k)) 8 0 else []
theorem arnd_len (b : Bx) (w h g : Int) : (arnd b w h g).length ≤ 8 := by
  unfold arnd
  split
  · have := coll_len (f := fun k => putf (plc b w h g k)) (n := 8) (i := 0) (m := 1) (fun k => putf_len _)
    omega
  · simp
def putQD : List D → List D
  | [.l acc, .i a, .i b, .i c, .i d] => [.i 0, .l ((acc.map decQ ++ putf (a, b, c, d)).map encQ)]
  | _ => []
def putQP (ρ : List D) : Prop := ∃ (acc : List Bx) (q : Bx), ρ = [.l (acc.map encQ), .i q.1, .i q.2.1, .i q.2.2.1, .i q.2.2.2] ∧ acc.length ≤ 64
def lpAn : List D → List D
  | [.i w, .i h, .i g, .i k, .i a, .i b, .i c, .i d, .l acc] => [.i 0, .i 8, .l ((acc.map decQ ++ collN (fun k => putf (plc (a, b, c, d) w h g k)) 8 k.toNat).map encQ)]
  | _ => []
def prAn (ρ : List D) : Prop := ∃ (w h g : Int) (k : Nat) (b : Bx) (acc : List Bx), ρ = [.i w, .i h, .i g, .i (k : Int), .i b.1, .i b.2.1, .i b.2.2.1, .i b.2.2.2, .l (acc.map encQ)] ∧ bxQ b = true ∧ sz3 w h g = true ∧ k ≤ 8 ∧ acc.length ≤ k
def arndD : List D → List D
  | [.i a, .i b, .i c, .i d, .i w, .i h, .i g] => [.l ((arnd (a, b, c, d) w h g).map encQ)]
  | _ => []
def freeAt (l obs : List Bx) (i : Nat) : Bool := bxQ (l.getD i z4) && !anyN (fun k => ovQ (l.getD i z4) (obs.getD k z4)) obs.length
def freeL (l obs : List Bx) : List Nat := pickN (freeAt l obs) l.length
def lpFr : List D → List D
  | [.l obs, .l xs, .i n, .i i, .l acc] => [.i 0, .i n, .l (acc ++ collN (one1 (freeAt (xs.map decQ) (obs.map decQ))) xs.length i.toNat)]
  | _ => []
def prFr (ρ : List D) : Prop := ∃ (l obs : List Bx) (i : Nat) (acc : List (List D)), ρ = [.l (obs.map encQ), .l (l.map encQ), .i (l.length : Int), .i (i : Int), .l acc] ∧ i ≤ l.length ∧ l.length ≤ 64 ∧ obs.length ≤ maxLen ∧ acc.length ≤ i
def freeD : List D → List D
  | [.l xs, .l obs] => [.l ((freeL (xs.map decQ) (obs.map decQ)).map encN)]
  | _ => []
def freePre (ds : List D) : Prop := ∃ l obs : List Bx, ds = [.l (l.map encQ), .l (obs.map encQ)] ∧ l.length ≤ 64 ∧ obs.length ≤ maxLen
def lpDj : List D → List D
  | [.l _, .i g, v, .l xs, .i _, .i i] => scanN (nearAny (xs.map decQ) g) (fun j => [.i 0, .b false, .i (j : Int)]) (fun j => [.i 1, v, .i (j : Int)]) (xs.length - i.toNat) i.toNat
  | _ => []
def prDj (ρ : List D) : Prop := ∃ (l : List Bx) (g : Int) (v : D) (j : Nat), ρ = [.l (l.map encQ), .i g, v, .l (l.map encQ), .i (l.length : Int), .i (j : Int)] ∧ j ≤ l.length ∧ l.length ≤ maxLen
def lpDk : List D → List D
  | [v, .l xs, .i _, .i i, .i a, .i b, .i c, .i d] => scanN (nearAt (xs.map decQ) (a, b, c, d)) (fun j => [.i 0, .b false, .i (j : Int)]) (fun j => [.i 1, v, .i (j : Int)]) (xs.length - i.toNat) i.toNat
  | _ => []
def prDk (ρ : List D) : Prop := ∃ (v : D) (l : List Bx) (q : Bx) (j : Nat), ρ = [v, .l (l.map encQ), .i (l.length : Int), .i (j : Int), .i q.1, .i q.2.1, .i q.2.2.1, .i q.2.2.2] ∧ j ≤ l.length ∧ l.length ≤ maxLen
def disjD : List D → List D
  | [.l xs, .i g] => [.b (disj2 (xs.map decQ) g)]
  | _ => []
def wid (s : ByteArray) : Int := if plainB s = true then 600 * (s.size : Int) else 0
theorem wid_le {s : ByteArray} (h : s.size ≤ 20) : 0 ≤ wid s ∧ wid s ≤ 12000 := by unfold wid; split <;> omega
def widD (ds : List D) : List D := [.i (wid (cS ds 0))]
def widP (ds : List D) : Prop := (cS ds 0).size ≤ 20
def lpTz : List D → List D
  | [.l xs, .i n, .i i, .i x, _] => [.i 0, .i n, .i (foldN (fun j m => max m (wid (cS (el xs j) 0))) xs.length i.toNat x)]
  | _ => []
def prTz (ρ : List D) : Prop := ∃ (xs : List (List D)) (j : Nat) (x y : Int), ρ = [.l xs, .i (xs.length : Int), .i (j : Int), .i x, .i y] ∧ j ≤ xs.length ∧ xs.length ≤ 64 ∧ ∀ k, k < xs.length → (cS (el xs k) 0).size ≤ 20
def tszD : List D → List D
  | [.l xs] => [.i (foldN (fun j m => max m (wid (cS (el xs j) 0))) xs.length 0 0), .i (1000 * (xs.length : Int))]
  | _ => []
def tszP (ds : List D) : Prop := ∃ xs : List (List D), ds = [.l xs] ∧ xs.length ≤ 64 ∧ ∀ k, k < xs.length → (cS (el xs k) 0).size ≤ 20
def longT (xs : List (List D)) (j : Nat) : Bool := decide (20 < ((cS (el xs j) 0).size : Int))
def szT (xs : List (List D)) (j : Nat) : Pt := (wid (cS (el xs j) 0), 1000)
def tz (xs : List (List D)) (v : D) : Nat → Nat → List (List D) → List D
  | 0, i, acc => [.i 1, v, .i (i : Int), .l acc]
  | f + 1, i, acc => if longT xs i = true then [.i 0, .b true, .i (i : Int), .l acc] else tz xs v f (i + 1) (acc ++ [encP (szT xs i)])
theorem tz_spec (xs : List (List D)) (v : D) : ∀ (f i : Nat) (acc : List (List D)), i + f = xs.length → (anyN (longT xs) xs.length = true ∧ ∃ j a, tz xs v f i acc = [.i 0, .b true, j, a]) ∨ ((∀ j, i ≤ j → j < xs.length → longT xs j = false) ∧ tz xs v f i acc = [.i 1, v, .i (xs.length : Int), .l (acc ++ (((List.range xs.length).drop i).map (szT xs)).map encP)])
  | 0, i, acc, h => by
    refine .inr ⟨fun j h1 h2 => by omega, ?_⟩
    have hi : i = xs.length := by omega
    subst hi
    rw [tz, List.drop_of_length_le (by simp)]
    simp
  | f + 1, i, acc, h => by
    have hi : i < xs.length := by omega
    rw [tz]
    cases hl : longT xs i
    · rcases tz_spec xs v f (i + 1) (acc ++ [encP (szT xs i)]) (by omega) with h1 | ⟨h1, h2⟩
      · rw [if_neg (by decide)]; exact .inl h1
      · refine .inr ⟨fun j h3 h4 => ?_, ?_⟩
        · by_cases hj : j = i
          · rw [hj, hl]
          · exact h1 j (by omega) h4
        · rw [if_neg (by decide), h2]
          have hd : (List.range xs.length).drop i = i :: (List.range xs.length).drop (i + 1) := by
            rw [List.drop_eq_getElem_cons (by simpa using hi)]; simp
          rw [hd]
          simp
    · exact .inl ⟨anyN_iff.2 ⟨i, hi, hl⟩, _, _, by rw [if_pos rfl]⟩
def lpU0 : List D → List D
  | [.l xs, v, .i i, .l acc] => tz xs v (xs.length - i.toNat) i.toNat acc
  | _ => []
def prU0 (ρ : List D) : Prop := ∃ (xs : List (List D)) (v : D) (j : Nat) (acc : List (List D)), ρ = [.l xs, v, .i (j : Int), .l acc] ∧ j ≤ xs.length ∧ xs.length ≤ 8 ∧ acc.length ≤ j
def lpU1 : List D → List D
  | [v, .l _, .l _, .l xs, .i _] => [.i 1, v, .i (xs.length : Int)]
  | _ => []
def clr (B A : List Bx) (l : List Nat) : Prop := ∀ i ∈ l, i < A.length ∧ ∀ k, k < B.length → ovQ (A.getD i z4) (B.getD k z4) = false
def prU1 (ρ : List D) : Prop := ∃ (v : D) (B A : List Bx) (l : List Nat) (j : Nat), ρ = [v, .l (B.map encQ), .l (A.map encQ), .l (l.map encN), .i (j : Int)] ∧ j ≤ l.length ∧ l.length ≤ 64 ∧ B.length ≤ 64 ∧ clr B A l
def lpU2 : List D → List D
  | [v, .l bs, .l _, .l _, .i _, .i _] => [.i 1, v, .i (bs.length : Int)]
  | _ => []
def prU2 (ρ : List D) : Prop := ∃ (v : D) (B A : List Bx) (l : List Nat) (i j : Nat), ρ = [v, .l (B.map encQ), .l (A.map encQ), .l (l.map encN), .i (i : Int), .i (j : Int)] ∧ j ≤ B.length ∧ i < l.length ∧ B.length ≤ 64 ∧ clr B A l
def lpU3 : List D → List D
  | [.l xs, v, .l _, .i _] => [.i 1, v, .i (xs.length : Int)]
  | _ => []
def prU3 (ρ : List D) : Prop := ∃ (xs : List (List D)) (v : D) (B : List Bx) (j : Nat), ρ = [.l xs, v, .l (B.map encQ), .i (j : Int)] ∧ j ≤ xs.length ∧ xs.length ≤ 8 ∧ B.length = xs.length ∧ (∀ q ∈ B, -268435456 ≤ q.1 ∧ q.2.2.1 ≤ 268435456 ∧ -268435456 ≤ q.2.1 ∧ q.2.2.2 ≤ 268435456 ∧ q.1 ≤ q.2.2.1 ∧ q.2.1 ≤ q.2.2.2) ∧ ∀ k, k < xs.length → (cS (el xs k) 0).size ≤ 20 ∧ extQ (B.getD k z4) = (wid (cS (el xs k) 0), 1000)
def oneD (_ : List D) : List D := [.b true]
theorem plain_best {S : List Pt} {g : Int} (h : cerr S 0 g = 0) : disj2 (best S g) g = true := by
  obtain ⟨h1, h2, _⟩ := best_spec h
  have hg := (cerr_ok h).2.2.1
  unfold disj2
  rw [Bool.not_eq_true']
  refine anyN_false.2 fun i hi => anyN_false.2 fun k hk => ?_
  show ovQ ((best S g).getD k z4) (inflQ ((best S g).getD i z4) g) = false
  have hp := List.pairwise_iff_getElem.1 h2 k i (by omega) hi hk
  have ei : (best S g).getD i z4 = (best S g)[i] := by simp [List.getD, hi]
  have ek : (best S g).getD k z4 = (best S g)[k]'(by omega) := by simp [List.getD, show k < (best S g).length by omega]
  rw [← ei, ← ek] at hp
  rw [Bool.eq_false_iff]
  intro h3
  simp only [ovQ, Bool.and_eq_true, decide_eq_true_eq] at h3
  unfold inflQ at h3
  split at h3
  · unfold aprt at hp
    simp only at h3
    omega
  · have z1 : z4.1 = 0 := rfl
    have z2 : z4.2.2.1 = 0 := rfl
    omega
theorem best_ext {S : List Pt} {g : Int} (h : cerr S 0 g = 0) {k : Nat} (hk : k < S.length) : extQ ((best S g).getD k z4) = S.getD k pz := by
  have := szds_get (best_spec h).1 k hk
  unfold szd at this
  unfold extQ
  have e : S.getD k pz = ((S.getD k pz).1, (S.getD k pz).2) := rfl
  rw [e, Prod.mk.injEq]
  omega
end Go.RV
