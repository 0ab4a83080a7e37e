/-
  RV, part 21: rows of data as lists of typed things.
-/
import Derived.Test.YthnilbkkihmpoaaRvPlain
namespace Go.RV
open Go.RowKit

/-- what an int may be -/
def I64 (n : Int) : Prop := -9223372036854775808 ≤ n ∧ n ≤ 9223372036854775807

abbrev Pt : Type := Int × Int
abbrev Bx : Type := Int × Int × Int × Int
def ctsP : List CT := [.int .i64, .int .i64]
def ctsQ : List CT := [.int .i64, .int .i64, .int .i64, .int .i64]
def ctsI : List CT := [.int .i64]
def encI (n : Int) : List D := [.i n]
def encP (p : Pt) : List D := [.i p.1, .i p.2]
def encQ (q : Bx) : List D := [.i q.1, .i q.2.1, .i q.2.2.1, .i q.2.2.2]
def decI (r : List D) : Int := (r.getD 0 default).int
def decP (r : List D) : Pt := ((r.getD 0 default).int, (r.getD 1 default).int)
def decQ (r : List D) : Bx := ((r.getD 0 default).int, (r.getD 1 default).int, (r.getD 2 default).int, (r.getD 3 default).int)
theorem dec_encI (n : Int) : decI (encI n) = n := rfl
theorem dec_encP (p : Pt) : decP (encP p) = p := rfl
theorem dec_encQ (q : Bx) : decQ (encQ q) = q := rfl

theorem map_dec {α : Type} {enc : α → List D} {dec : List D → α} (h : ∀ a, dec (enc a) = a) (l : List α) : (l.map enc).map dec = l := by
  rw [List.map_map]
  have : (dec ∘ enc) = id := by funext a; exact h a
  rw [this, List.map_id]
theorem map_decI (l : List Int) : (l.map encI).map decI = l := map_dec dec_encI l
theorem map_decP (l : List Pt) : (l.map encP).map decP = l := map_dec dec_encP l
theorem map_decQ (l : List Bx) : (l.map encQ).map decQ = l := map_dec dec_encQ l

theorem rows_typed {α : Type} {enc : α → List D} {ok : α → Prop} {cts : List CT} (h : ∀ x, FitsF cts x → ∃ a, x = enc a ∧ ok a) : ∀ {xs : List (List D)}, (∀ x ∈ xs, FitsF cts x) → ∃ l : List α, xs = l.map enc ∧ ∀ a ∈ l, ok a
  | [], _ => ⟨[], rfl, fun _ h => by cases h⟩
  | x :: xs, hx => by
    obtain ⟨a, rfl, ha⟩ := h x (hx _ List.mem_cons_self)
    obtain ⟨l, rfl, hl⟩ := rows_typed h (xs := xs) fun y hy => hx y (List.mem_cons_of_mem _ hy)
    exact ⟨a :: l, rfl, fun b hb => by cases hb with | head => exact ha | tail _ hb => exact hl b hb⟩

def okP (p : Pt) : Prop := I64 p.1 ∧ I64 p.2
def okQ (q : Bx) : Prop := I64 q.1 ∧ I64 q.2.1 ∧ I64 q.2.2.1 ∧ I64 q.2.2.2
theorem row_I (x : List D) (h : FitsF ctsI x) : ∃ a, x = encI a ∧ I64 a := by
  match x, h with
  | [d0], ⟨h0, _⟩ =>
    obtain ⟨a, rfl, ha⟩ := wf_i64 h0
    exact ⟨a, rfl, ha⟩
theorem row_P (x : List D) (h : FitsF ctsP x) : ∃ a, x = encP a ∧ okP a := by
  match x, h with
  | [d0, d1], ⟨h0, h1, _⟩ =>
    obtain ⟨a, rfl, ha⟩ := wf_i64 h0
    obtain ⟨b, rfl, hb⟩ := wf_i64 h1
    exact ⟨(a, b), rfl, ha, hb⟩
theorem row_Q (x : List D) (h : FitsF ctsQ x) : ∃ a, x = encQ a ∧ okQ a := by
  match x, h with
  | [d0, d1, d2, d3], ⟨h0, h1, h2, h3, _⟩ =>
    obtain ⟨a, rfl, ha⟩ := wf_i64 h0
    obtain ⟨b, rfl, hb⟩ := wf_i64 h1
    obtain ⟨c, rfl, hc⟩ := wf_i64 h2
    obtain ⟨d, rfl, hd⟩ := wf_i64 h3
    exact ⟨(a, b, c, d), rfl, ha, hb, hc, hd⟩

theorem slI {e : TypeId} {d : D} (h : Wf (.sl e ctsI) d) : ∃ l : List Int, d = .l (l.map encI) ∧ l.length ≤ maxLen ∧ ∀ a ∈ l, I64 a := by
  obtain ⟨xs, rfl, hm, hr⟩ := wf_sl h
  obtain ⟨l, rfl, hl⟩ := rows_typed row_I hr
  exact ⟨l, rfl, by simpa using hm, hl⟩
theorem slP {e : TypeId} {d : D} (h : Wf (.sl e ctsP) d) : ∃ l : List Pt, d = .l (l.map encP) ∧ l.length ≤ maxLen ∧ ∀ a ∈ l, okP a := by
  obtain ⟨xs, rfl, hm, hr⟩ := wf_sl h
  obtain ⟨l, rfl, hl⟩ := rows_typed row_P hr
  exact ⟨l, rfl, by simpa using hm, hl⟩
theorem slQ {e : TypeId} {d : D} (h : Wf (.sl e ctsQ) d) : ∃ l : List Bx, d = .l (l.map encQ) ∧ l.length ≤ maxLen ∧ ∀ a ∈ l, okQ a := by
  obtain ⟨xs, rfl, hm, hr⟩ := wf_sl h
  obtain ⟨l, rfl, hl⟩ := rows_typed row_Q hr
  exact ⟨l, rfl, by simpa using hm, hl⟩

/-- the place i of a list: what a round of a loop needs to know of it -/
theorem at_place {α : Type} (enc : α → List D) (l : List α) {i : Int} (h0 : 0 ≤ i) (h : i < l.length) :
    ∃ a, a ∈ l ∧ l[i.toNat]? = some a ∧ (l.map enc).getD i.toNat [] = enc a ∧ l.drop i.toNat = a :: l.drop (i + 1).toNat ∧ l.take (i + 1).toNat = l.take i.toNat ++ [a] := by
  have hi : i.toNat < l.length := by omega
  have e : (i + 1).toNat = i.toNat + 1 := by omega
  refine ⟨l[i.toNat], List.getElem_mem hi, List.getElem?_eq_getElem hi, by simp [List.getD, hi], ?_, ?_⟩
  · rw [e]; exact List.drop_eq_getElem_cons hi
  · rw [e]; exact List.take_succ_eq_append_getElem hi
theorem at_end {α : Type} (l : List α) {i : Int} (h : (l.length : Int) ≤ i) : l.drop i.toNat = [] ∧ l.take i.toNat = l := by
  have hi : l.length ≤ i.toNat := by omega
  exact ⟨List.drop_of_length_le hi, List.take_of_length_le hi⟩
theorem len_map {α : Type} (enc : α → List D) (l : List α) : (((l.map enc).length : Nat) : Int) = l.length := by simp
theorem cat_map {α : Type} (enc : α → List D) (l : List α) (a : α) : l.map enc ++ [enc a] = (l ++ [a]).map enc := by simp

theorem encQ_eq (a b c d : Int) : [D.i a, D.i b, D.i c, D.i d] = encQ (a, b, c, d) := rfl
theorem encP_eq (a b : Int) : [D.i a, D.i b] = encP (a, b) := rfl
theorem encI_eq (a : Int) : [D.i a] = encI a := rfl

theorem fits3 {a b c : CT} {ds : List D} (h : FitsF [a, b, c] ds) : ∃ x y z, ds = [x, y, z] ∧ Wf a x ∧ Wf b y ∧ Wf c z := by
  match ds, h with
  | [x, y, z], ⟨h0, h1, h2, _⟩ => exact ⟨x, y, z, rfl, h0, h1, h2⟩
theorem fits2 {a b : CT} {ds : List D} (h : FitsF [a, b] ds) : ∃ x y, ds = [x, y] ∧ Wf a x ∧ Wf b y := by
  match ds, h with
  | [x, y], ⟨h0, h1, _⟩ => exact ⟨x, y, rfl, h0, h1⟩
theorem fits1 {a : CT} {ds : List D} (h : FitsF [a] ds) : ∃ x, ds = [x] ∧ Wf a x := by
  match ds, h with
  | [x], ⟨h0, _⟩ => exact ⟨x, rfl, h0⟩
theorem fits0 {ds : List D} (h : FitsF [] ds) : ds = [] := by
  match ds, h with
  | [], _ => rfl

/-- looks at the places i, i + 1, .. for one with p -/
def scanN (p : Nat → Bool) (hit miss : Nat → List D) : (fuel : Nat) → (i : Nat) → List D
  | 0, i => miss i
  | n + 1, i => if p i = true then hit i else scanN p hit miss n (i + 1)
section
variable {p : Nat → Bool} {hit miss : Nat → List D} {n i : Nat}
theorem scan_next (h : i < n) (hp : p i = false) : scanN p hit miss (n - (i + 1)) (i + 1) = scanN p hit miss (n - i) i := by
  have e : n - i = (n - (i + 1)) + 1 := by omega
  rw [e, scanN, hp]
  simp
theorem scan_hit (h : i < n) (hp : p i = true) : scanN p hit miss (n - i) i = hit i := by
  have e : n - i = (n - (i + 1)) + 1 := by omega
  rw [e, scanN, hp]
  simp
theorem scan_end : scanN p hit miss (n - n) n = miss n := by rw [Nat.sub_self]; rfl
theorem scan_cases : ∀ (m i : Nat), (∃ j, i ≤ j ∧ j < i + m ∧ p j = true ∧ (∀ k, i ≤ k → k < j → p k = false) ∧ scanN p hit miss m i = hit j) ∨ ((∀ j, i ≤ j → j < i + m → p j = false) ∧ scanN p hit miss m i = miss (i + m))
  | 0, i => .inr ⟨fun j h1 h2 => by omega, rfl⟩
  | m + 1, i => by
    cases hp : p i with
    | true => exact .inl ⟨i, Nat.le_refl _, by omega, hp, fun k h1 h2 => by omega, by simp [scanN, hp]⟩
    | false =>
      rcases scan_cases m (i + 1) with ⟨j, h1, h2, h3, h4, h5⟩ | ⟨h1, h2⟩
      · refine .inl ⟨j, by omega, by omega, h3, fun k h6 h7 => ?_, by simp [scanN, hp, h5]⟩
        by_cases e : k = i
        · rw [e]; exact hp
        · exact h4 k (by omega) h7
      · refine .inr ⟨fun j h3 h4 => ?_, by simp only [scanN, hp, Bool.false_eq_true, if_false, h2]; congr 1; omega⟩
        by_cases e : j = i
        · rw [e]; exact hp
        · exact h1 j (by omega) (by omega)
end

/-- does p hold at some place below n? -/
def anyN (p : Nat → Bool) (n : Nat) : Bool := (List.range n).any p
theorem anyN_iff {p : Nat → Bool} {n : Nat} : anyN p n = true ↔ ∃ j, j < n ∧ p j = true := by simp [anyN]
theorem anyN_false {p : Nat → Bool} {n : Nat} : anyN p n = false ↔ ∀ j, j < n → p j = false := by
  rw [← Bool.not_eq_true, anyN_iff]
  constructor
  · intro h j hj
    cases hp : p j with
    | false => rfl
    | true => exact absurd ⟨j, hj, hp⟩ h
  · rintro h ⟨j, hj, hp⟩
    rw [h j hj] at hp
    cases hp
/-- a scan from the beginning -/
theorem scan_any {p : Nat → Bool} {hit miss : Nat → List D} (n : Nat) : (anyN p n = true ∧ ∃ j, j < n ∧ p j = true ∧ (∀ k, k < j → p k = false) ∧ scanN p hit miss n 0 = hit j) ∨ (anyN p n = false ∧ scanN p hit miss n 0 = miss n) := by
  rcases scan_cases (p := p) (hit := hit) (miss := miss) n 0 with ⟨j, h1, h2, h3, h4, h5⟩ | ⟨h1, h2⟩
  · exact .inl ⟨anyN_iff.2 ⟨j, by omega, h3⟩, j, by omega, h3, fun k hk => h4 k (by omega) hk, h5⟩
  · exact .inr ⟨anyN_false.2 fun j hj => h1 j (by omega) (by omega), by rw [h2, Nat.zero_add]⟩

theorem row_get {α : Type} {enc : α → List D} {l : List α} {i : Nat} (d0 : α) (h : i < l.length) : (l.map enc).getD i [] = enc (l.getD i d0) := by simp [List.getD, h]
theorem nat_wrap {n : Nat} (h : (n : Int) + 1 ≤ 9223372036854775807) : IntKind.i64.wrap ((n : Int) + 1) = ((n + 1 : Nat) : Int) := by rw [w64 (by omega)]; omega

def tabP (l : List (FuncId × (List D → Prop))) (f : FuncId) : List D → Prop := match l with
  | [] => fun _ => True
  | e :: es => if e.1 == f then e.2 else tabP es f
theorem maxLen_val : maxLen = 9223372036854775807 := rfl
end Go.RV
