/-
  RV, part 3: what a symbolic state says of a frame and a world; what keeps it.
-/
import Derived.Test.YthnilbkkihmpoaaRvEval
namespace Go.RV
open Go.RowKit

/-- what the symbolic state leaves open: the boxes' blocks, the rows' slice values and versions, the frozen blocks -/
structure Gh where
  β : Nat → Option Nat
  rv : Nat → Value
  vr : Nat → Nat
  F : Nat → Prop

section
variable (Φ : FuncId → List D → List D) (ρ : List D)

def SC.rel (w : World) (gh : Gh) : SC → Value → Prop
  | .x ct e, v => Rep w gh.F ct v (e.d Φ ρ)
  | .ptr r off, v => ∃ b, gh.β r = some b ∧ v = .pointer (some ⟨b, off, none⟩)
  | .ea e cts s i off, v => ∃ g o len cap, Rep w gh.F (.sl e cts) (.slice (some ⟨g, o, none⟩) len cap) (s.d Φ ρ) ∧ 0 ≤ (i.d Φ ρ).int ∧ (i.d Φ ρ).int < len ∧
      v = .pointer (some ⟨g, o + (i.d Φ ρ).int.toNat * cts.length + off, none⟩)
  | .pa cts p off, v => ∃ g o, Rep w gh.F (.pt cts) (.pointer (some ⟨g, o, none⟩)) (p.d Φ ρ) ∧ v = .pointer (some ⟨g, o + off, none⟩)
  | .row r ver, v => (∃ a n c, v = .slice a n c) ∧ 1 ≤ ver ∧ ver ≤ gh.vr r ∧ (gh.vr r = ver → v = gh.rv r)
  | .ra r ver n i off, v => (∃ q, v = .pointer (some q)) ∧ 1 ≤ ver ∧ ver ≤ gh.vr r ∧ (gh.vr r = ver → ∃ b len cap, gh.rv r = .slice (some ⟨b, 0, none⟩) len cap ∧ 0 ≤ (i.d Φ ρ).int ∧ (i.d Φ ρ).int < len ∧
      v = .pointer (some ⟨b, (i.d Φ ρ).int.toNat * n + off, none⟩))
  | .da r base n i, v => ∃ b, gh.β r = some b ∧ 0 ≤ (i.d Φ ρ).int ∧ (i.d Φ ρ).int < n ∧ v = .pointer (some ⟨b, base + (i.d Φ ρ).int.toNat, none⟩)
  | .fn f caps, v => ∃ vs : Array Value, v = .func (.func f) #[] vs ∧ vs.size = caps.length ∧ ∀ j c, caps[j]? = some c → ∃ b, gh.β c.1 = some b ∧ vs.getD j undef = .pointer (some ⟨b, c.2, none⟩)
  | .cst c, v => v = c ∧ c.oneCell' = true
  | .any, _ => True

def relS (w : World) (gh : Gh) : List SC → List Value → Prop
  | [], [] => True
  | s :: ss, v :: vs => SC.rel Φ ρ w gh s v ∧ relS w gh ss vs
  | _, _ => False

def relT (w : World) (gh : Gh) : List (Bool × List SC) → List Value → Prop
  | [], [] => True
  | p :: ps, v :: vs => (if p.1 then ∃ us : Array Value, v = .agg us ∧ relS Φ ρ w gh p.2 us.toList else relS Φ ρ w gh p.2 [v]) ∧ relT w gh ps vs
  | _, _ => False

def SV.rel (w : World) (gh : Gh) : SV → Value → Prop
  | .c s, v => SC.rel Φ ρ w gh s v
  | .agg cs, v => ∃ vs : Array Value, v = .agg vs ∧ relS Φ ρ w gh cs vs.toList
  | .tup ps, v => ∃ vs : Array Value, v = .tuple vs ∧ relT Φ ρ w gh ps vs.toList
  | .grd g s, v => if (g.d Φ ρ).bool = true then SV.rel w gh s v else v = undef
  | .und, v => v = undef
  | .any, _ => True

/-- a row of the run's own: from the start of a block of its own, or without room -/
def OwnR (w : World) (e : TypeId) (size : Nat) (v : Value) (n : Nat) (xs : List Value) : Prop :=
  (xs = [] ∧ n = 0 ∧ ∃ q, v = .slice q 0 0) ∨
  ∃ g cap cur, v = .slice (some ⟨g, 0, none⟩) n cap ∧ 0 < cap ∧ xs.length = n * size ∧ w.heap[g]? = some (.cells cur e (0, 0)) ∧ n ≤ cap ∧ cap ≤ maxLen ∧ cur.size = cap * size ∧ cur.toList.take (n * size) = xs
/-- the block that a row may still write -/
def ownB : Value → Option Nat
  | .slice (some a) _ (_ + 1) => some a.block
  | _ => none
theorem OwnR.of {w : World} {base : Nat} {e : TypeId} {size : Nat} {v : Value} {n : Nat} {xs : List Value} (h : w.ownsRow base e size v n xs) : OwnR w e size v n xs := by
  obtain ⟨h1, ⟨h2, h3⟩ | ⟨g, cap, cur, h2, _, h3, h4, h5, h6, h7⟩⟩ := h
  · exact .inl ⟨by rw [h3, Nat.zero_mul] at h1; exact List.length_eq_zero_iff.1 h1, h3, _, h2⟩
  · by_cases hc : cap = 0
    · have hn : n = 0 := by omega
      subst hc hn
      rw [Nat.zero_mul] at h1
      exact .inl ⟨List.length_eq_zero_iff.1 h1, rfl, _, h2⟩
    · exact .inr ⟨g, cap, cur, h2, by omega, h1, h3, h4, h5, h6, h7⟩
theorem OwnR.owns {w : World} {e : TypeId} {size : Nat} {v : Value} {n : Nat} {xs : List Value} (h : OwnR w e size v n xs) : (xs = [] ∧ n = 0 ∧ ∃ q, v = .slice q 0 0) ∨ (w.ownsRow 0 e size v n xs ∧ ∃ g cap, v = .slice (some ⟨g, 0, none⟩) n (cap + 1)) := by
  rcases h with h | ⟨g, cap, cur, h1, h2, h3, h4⟩
  · exact .inl h
  · obtain ⟨c, rfl⟩ : ∃ c, cap = c + 1 := ⟨cap - 1, by omega⟩
    exact .inr ⟨⟨h3, .inr ⟨g, c + 1, cur, h1, Nat.zero_le _, h4⟩⟩, g, c, h1⟩
theorem OwnR.len {w : World} {e : TypeId} {size : Nat} {v : Value} {n : Nat} {xs : List Value} (h : OwnR w e size v n xs) : xs.length = n * size := by
  rcases h with ⟨rfl, rfl, _⟩ | ⟨_, _, _, _, _, h3, _⟩
  · simp
  · exact h3
theorem OwnR.slice {w : World} {e : TypeId} {size : Nat} {v : Value} {n : Nat} {xs : List Value} (h : OwnR w e size v n xs) : ∃ q m c, v = .slice q m c := by
  rcases h with ⟨_, _, q, rfl⟩ | ⟨_, _, _, rfl, _⟩
  · exact ⟨_, _, _, rfl⟩
  · exact ⟨_, _, _, rfl⟩
theorem ownB_own {v : Value} {b : Nat} (h : ownB v = some b) : v.ownBlock = some b := by
  unfold ownB at h
  split at h
  · exact h
  · cases h

/-- the cells of a row as data -/
def RowRep (w : World) (F : Nat → Prop) (cts : List CT) (xs : List (List D)) (vals : List Value) : Prop :=
  ∀ i, i < xs.length → (xs.getD i []).length = cts.length ∧ ∀ j ct, cts[j]? = some ct → Rep w F ct (vals.getD (i * cts.length + j) undef) ((xs.getD i []).getD j default)

def ResOk (w : World) (gh : Gh) (r : Nat) : RK → Prop
  | .box ety cells frz => ∃ b cur, gh.β r = some b ∧ w.heap[b]? = some (.cells cur ety (0, 0)) ∧ relS Φ ρ w gh cells cur.toList ∧ (frz = true → gh.F b)
  | .row ety cts content ver frz => gh.vr r = ver ∧ 1 ≤ ver ∧ (∀ q n c, gh.rv r = .slice (some q) n c → 0 < c → ∃ b, q = ⟨b, 0, none⟩) ∧
      if frz then Rep w gh.F (.sl ety cts) (gh.rv r) (content.d Φ ρ)
      else ∃ xs vals, content.d Φ ρ = .l xs ∧ OwnR w ety cts.length (gh.rv r) xs.length vals ∧ RowRep w gh.F cts xs vals
end

/-- the block that a resource may still write -/
def RK.live (gh : Gh) (r : Nat) : RK → Option Nat
  | .box _ _ false => gh.β r
  | .row _ _ _ _ false => ownB (gh.rv r)
  | _ => none

structure Gh.le (gh gh' : Gh) : Prop where
  β : ∀ r b, gh.β r = some b → gh'.β r = some b
  vr : ∀ r, gh.vr r ≤ gh'.vr r
  rv : ∀ r, 1 ≤ gh.vr r → gh'.vr r = gh.vr r → gh'.rv r = gh.rv r
  F : ∀ b, gh.F b → gh'.F b

theorem Gh.le.refl (gh : Gh) : gh.le gh := ⟨fun _ _ h => h, fun _ => Nat.le_refl _, fun _ _ _ => rfl, fun _ h => h⟩

theorem Gh.le.trans {g1 g2 g3 : Gh} (h : g1.le g2) (k : g2.le g3) : g1.le g3 :=
  ⟨fun r b hb => k.β r b (h.β r b hb), fun r => Nat.le_trans (h.vr r) (k.vr r), fun r h1 h2 => by
    have a1 := h.vr r
    have a2 := k.vr r
    rw [k.rv r (by omega) (by omega), h.rv r h1 (by omega)], fun b hb => k.F b (h.F b hb)⟩

structure Ctx where
  Φ : FuncId → List D → List D
  ρ : List D
  Pr : Nat → Prop
  w0 : World
  wok : Nat → Bool
  a0 : Act
  gh0 : Gh

def Res.on (K : Ctx) (x : Res) : Prop := (x.g.d K.Φ K.ρ).bool = true
def St.has (σ : St) (r : Nat) (x : Res) : Prop := σ.res[r]? = some (some x)

structure Inv (K : Ctx) (σ : St) (gh : Gh) (a : Act) (w : World) : Prop where
  defers : a.defers = []
  size : a.tmps.size = σ.slots.length
  slot : ∀ n s, σ.slots[n]? = some s → SV.rel K.Φ K.ρ w gh s (a.tmps.getD n undef)
  kept : ∀ n, K.wok n = false → a.tmps.getD n undef = K.a0.tmps.getD n undef
  os : w.os = K.w0.os
  tape : w.tape = K.w0.tape
  output : w.output = K.w0.output
  grow : K.w0.heap.size ≤ w.heap.size
  pr : ∀ b, K.Pr b → w.heap[b]? = K.w0.heap[b]?
  prlt : ∀ b, K.Pr b → b < K.w0.heap.size
  Flt : ∀ b, gh.F b → b < w.heap.size
  beta : ∀ r b, gh.β r = some b → ∃ x, σ.has r x ∧ x.on K
  vr0 : ∀ r, 1 ≤ gh.vr r → ∃ x, σ.has r x ∧ x.on K
  res : ∀ r x, σ.has r x → x.on K → ResOk K.Φ K.ρ w gh r x.k
  own : ∀ r x b, σ.has r x → x.on K → x.k.live gh r = some b → ¬ K.Pr b ∧ ¬ gh.F b ∧ b < w.heap.size
  inj : ∀ r x r' x' b, σ.has r x → x.on K → σ.has r' x' → x'.on K → x.k.live gh r = some b → x'.k.live gh r' = some b → r = r'
  le0 : K.gh0.le gh
  Fpr : ∀ b, gh.F b → K.gh0.F b ∨ ¬ K.Pr b

section
variable {Φ : FuncId → List D → List D} {ρ : List D} {w w' : World} {gh gh' : Gh}

theorem SC.rel_mono (hle : gh.le gh') (hw : ∀ b, gh.F b → w'.heap[b]? = w.heap[b]?) {s : SC} {v : Value} (h : SC.rel Φ ρ w gh s v) : SC.rel Φ ρ w' gh' s v := by
  cases s with
  | x ct e => exact Rep.mono hle.F hw h
  | ptr r off => obtain ⟨b, h1, h2⟩ := h; exact ⟨b, hle.β _ _ h1, h2⟩
  | ea e cts s i off => obtain ⟨g, o, len, cap, h1, h2⟩ := h; exact ⟨g, o, len, cap, Rep.mono hle.F hw h1, h2⟩
  | pa cts p off => obtain ⟨g, o, h1, h2⟩ := h; exact ⟨g, o, Rep.mono hle.F hw h1, h2⟩
  | row r ver =>
    obtain ⟨h0, h1, h2, h3⟩ := h
    refine ⟨h0, h1, Nat.le_trans h2 (hle.vr r), fun e => ?_⟩
    have e' : gh'.vr r = gh.vr r := by have := hle.vr r; omega
    rw [hle.rv r (by omega) e']
    exact h3 (by omega)
  | ra r ver n i off =>
    obtain ⟨h0, h1, h2, h3⟩ := h
    refine ⟨h0, h1, Nat.le_trans h2 (hle.vr r), fun e => ?_⟩
    have e' : gh'.vr r = gh.vr r := by have := hle.vr r; omega
    rw [hle.rv r (by omega) e']
    exact h3 (by omega)
  | da r base n i => obtain ⟨b, h1, h2⟩ := h; exact ⟨b, hle.β _ _ h1, h2⟩
  | fn f caps =>
    obtain ⟨vs, h1, h2, h3⟩ := h
    exact ⟨vs, h1, h2, fun j c hc => let ⟨b, hb, hv⟩ := h3 j c hc; ⟨b, hle.β _ _ hb, hv⟩⟩
  | cst c => exact h
  | any => trivial

theorem relS_mono (hle : gh.le gh') (hw : ∀ b, gh.F b → w'.heap[b]? = w.heap[b]?) : ∀ {ss : List SC} {vs : List Value}, relS Φ ρ w gh ss vs → relS Φ ρ w' gh' ss vs
  | [], [], _ => trivial
  | _ :: _, _ :: _, h => ⟨SC.rel_mono hle hw h.1, relS_mono hle hw h.2⟩
  | [], _ :: _, h => h.elim
  | _ :: _, [], h => h.elim

theorem relT_mono (hle : gh.le gh') (hw : ∀ b, gh.F b → w'.heap[b]? = w.heap[b]?) : ∀ {ss : List (Bool × List SC)} {vs : List Value}, relT Φ ρ w gh ss vs → relT Φ ρ w' gh' ss vs
  | [], [], _ => trivial
  | p :: _, _ :: _, h => by
    refine ⟨?_, relT_mono hle hw h.2⟩
    have h1 := h.1
    split at h1
    · obtain ⟨us, e, hr⟩ := h1; rename_i hp; rw [if_pos hp]; exact ⟨us, e, relS_mono hle hw hr⟩
    · rename_i hp; rw [if_neg hp]; exact relS_mono hle hw h1
  | [], _ :: _, h => h.elim
  | _ :: _, [], h => h.elim

theorem SV.rel_mono (hle : gh.le gh') (hw : ∀ b, gh.F b → w'.heap[b]? = w.heap[b]?) : ∀ {s : SV} {v : Value}, SV.rel Φ ρ w gh s v → SV.rel Φ ρ w' gh' s v
  | .c _, _, h => SC.rel_mono hle hw h
  | .agg _, _, ⟨vs, e, h⟩ => ⟨vs, e, relS_mono hle hw h⟩
  | .tup _, _, ⟨vs, e, h⟩ => ⟨vs, e, relT_mono hle hw h⟩
  | .grd g s, v, h => by
    unfold SV.rel at h ⊢
    split
    · rename_i hg; rw [if_pos hg] at h; exact SV.rel_mono hle hw h
    · rename_i hg; rw [if_neg hg] at h; exact h
  | .und, _, h => h
  | .any, _, _ => trivial

theorem RowRep.mono {F F' : Nat → Prop} (hF : ∀ b, F b → F' b) (hw : ∀ b, F b → w'.heap[b]? = w.heap[b]?) {cts : List CT} {xs : List (List D)} {vals : List Value}
    (h : RowRep w F cts xs vals) : RowRep w' F' cts xs vals :=
  fun i hi => ⟨(h i hi).1, fun j ct hc => ((h i hi).2 j ct hc).mono hF hw⟩

theorem relS_length : ∀ {ss : List SC} {vs : List Value}, relS Φ ρ w gh ss vs → ss.length = vs.length
  | [], [], _ => rfl
  | _ :: _, _ :: _, h => by simp [relS_length h.2]
  | [], _ :: _, h => h.elim
  | _ :: _, [], h => h.elim

theorem relS_get : ∀ {ss : List SC} {vs : List Value}, relS Φ ρ w gh ss vs → ∀ {j s}, ss[j]? = some s → SC.rel Φ ρ w gh s (vs.getD j undef)
  | [], [], _, _, _, h => by simp at h
  | s :: ss, v :: vs, h, 0, t, ht => by simp at ht; subst ht; simpa using h.1
  | s :: ss, v :: vs, h, j + 1, t, ht => by simp at ht; simpa using relS_get h.2 ht
  | [], _ :: _, h, _, _, _ => h.elim
  | _ :: _, [], h, _, _, _ => h.elim

theorem relS_mk : ∀ {ss : List SC} {vs : List Value}, ss.length = vs.length → (∀ j s, ss[j]? = some s → SC.rel Φ ρ w gh s (vs.getD j undef)) → relS Φ ρ w gh ss vs
  | [], [], _, _ => trivial
  | s :: ss, v :: vs, hl, h => ⟨by simpa using h 0 s rfl, relS_mk (by simpa using hl) fun j t ht => by simpa using h (j + 1) t (by simpa using ht)⟩
  | [], _ :: _, hl, _ => by simp at hl
  | _ :: _, [], hl, _ => by simp at hl

theorem relS_append {ss ts : List SC} {vs us : List Value} (h : relS Φ ρ w gh ss vs) (k : relS Φ ρ w gh ts us) : relS Φ ρ w gh (ss ++ ts) (vs ++ us) := by
  induction ss generalizing vs with
  | nil => cases vs with
    | nil => exact k
    | cons v vs => exact h.elim
  | cons s ss ih => cases vs with
    | nil => exact h.elim
    | cons v vs => exact ⟨h.1, ih h.2⟩

theorem relS_take : ∀ {ss : List SC} {vs : List Value} (n : Nat), relS Φ ρ w gh ss vs → relS Φ ρ w gh (ss.take n) (vs.take n)
  | [], [], n, _ => by simp [relS]
  | s :: ss, v :: vs, 0, _ => by simp [relS]
  | s :: ss, v :: vs, n + 1, h => ⟨h.1, relS_take n h.2⟩
  | [], _ :: _, _, h => h.elim
  | _ :: _, [], _, h => h.elim

theorem relS_drop : ∀ {ss : List SC} {vs : List Value} (n : Nat), relS Φ ρ w gh ss vs → relS Φ ρ w gh (ss.drop n) (vs.drop n)
  | [], [], n, _ => by simp [relS]
  | s :: ss, v :: vs, 0, h => h
  | s :: ss, v :: vs, n + 1, h => relS_drop n h.2
  | [], _ :: _, _, h => h.elim
  | _ :: _, [], _, h => h.elim

theorem relS_setRange {ss cs : List SC} {vs us : List Value} (off : Nat) (h : relS Φ ρ w gh ss vs) (k : relS Φ ρ w gh cs us) :
    relS Φ ρ w gh (setRange ss off cs) (vs.take off ++ us ++ vs.drop (off + us.length)) := by
  unfold setRange
  rw [relS_length k]
  exact relS_append (relS_append (relS_take off h) k) (relS_drop _ h)

theorem SC.rel_oneCell {s : SC} {v : Value} (h : SC.rel Φ ρ w gh s v) (hs : s ≠ .any) : v.oneCell' = true := by
  cases s with
  | x ct e => exact Rep.oneCell h
  | ptr r off => obtain ⟨b, h1, rfl⟩ := h; rfl
  | ea e cts s i off => obtain ⟨g, o, len, cap, h1, h2, h3, rfl⟩ := h; rfl
  | pa cts p off => obtain ⟨g, o, h1, rfl⟩ := h; rfl
  | row r ver => obtain ⟨⟨a, n, c, rfl⟩, _⟩ := h; rfl
  | ra r ver n i off => obtain ⟨⟨q, rfl⟩, _⟩ := h; rfl
  | da r base n i => obtain ⟨b, h1, h2, h3, rfl⟩ := h; rfl
  | fn f caps => obtain ⟨vs, rfl, _⟩ := h; rfl
  | cst c => obtain ⟨rfl, hc⟩ := h; exact hc
  | any => exact absurd rfl hs

theorem relS_oneCell : ∀ {ss : List SC} {vs : List Value}, relS Φ ρ w gh ss vs → noAny ss = true → ∀ v ∈ vs, v.oneCell' = true
  | [], [], _, _ => by simp
  | s :: ss, v :: vs, h, hn => by
    have hs : s ≠ .any := by rintro rfl; simp [noAny] at hn
    have hn' : noAny ss = true := by cases s <;> simp_all [noAny]
    intro u hu
    cases hu with
    | head => exact SC.rel_oneCell h.1 hs
    | tail _ hu => exact relS_oneCell h.2 hn' u hu
  | [], _ :: _, h, _ => h.elim
  | _ :: _, [], h, _ => h.elim

theorem entails_sound (g : X) : ∀ (G : X), entails g G = true → (G.d Φ ρ).bool = true → (g.d Φ ρ).bool = true := by
  have tt_sound : ∀ g : X, isTt g = true → (g.d Φ ρ).bool = true := by
    intro g h
    cases g <;> simp [isTt] at h
    subst h; rfl
  intro G
  induction G with
  | ite a b c iha ihb ihc =>
    intro h hG
    simp only [entails, Bool.or_eq_true, Bool.and_eq_true] at h
    rcases h with (h | h) | ⟨hc, h⟩
    · rw [← X.beq_eq _ _ h]; exact hG
    · exact tt_sound g h
    · have hc' := X.beq_eq _ _ hc
      subst hc'
      have hab : (a.d Φ ρ).bool = true ∧ (b.d Φ ρ).bool = true := by
        simp only [X.d] at hG
        split at hG
        · exact ⟨‹_›, hG⟩
        · simp at hG
      rcases h with h | h
      · exact iha h hab.1
      · exact ihb h hab.2
  | _ =>
    intro h hG
    simp only [entails, Bool.or_eq_true] at h
    rcases h with h | h
    · rw [← X.beq_eq _ _ h]; exact hG
    · exact tt_sound g h

theorem isTt_sound {g : X} (h : isTt g = true) : (g.d Φ ρ).bool = true := by
  cases g <;> simp [isTt] at h
  subst h; rfl

theorem strip_rel {G : X} (hG : (G.d Φ ρ).bool = true) : ∀ {s : SV} {v : Value}, SV.rel Φ ρ w gh s v → SV.rel Φ ρ w gh (strip G s) v
  | .grd g s, v, h => by
    unfold strip
    split
    · rename_i he
      have hg := entails_sound g G he hG
      unfold SV.rel at h
      rw [if_pos hg] at h
      exact strip_rel hG h
    · exact h
  | .c _, _, h => h
  | .agg _, _, h => h
  | .tup _, _, h => h
  | .und, _, h => h
  | .any, _, h => h

theorem constSC_rel (v : Value) : SC.rel Φ ρ w gh (constSC v) v := by
  unfold constSC
  split
  · split
    · exact Rep.int ‹_›
    · trivial
  · exact Rep.bool
  · split
    · exact Rep.str ‹_›
    · trivial
  · split
    · exact ⟨rfl, ‹_›⟩
    · trivial

theorem relS_const : ∀ (vs : List Value), relS Φ ρ w gh (vs.map constSC) vs
  | [] => trivial
  | v :: vs => ⟨constSC_rel v, relS_const vs⟩

theorem constSV_rel (v : Value) : SV.rel Φ ρ w gh (constSV v) v := by
  unfold constSV
  split
  · rename_i cs; exact ⟨cs, rfl, relS_const cs.toList⟩
  · trivial
  · exact constSC_rel v
end

theorem Inv.opd {K : Ctx} {σ : St} {gh : Gh} {a : Act} {w : World} (h : Inv K σ gh a w) (x : Operand) : SV.rel K.Φ K.ρ w gh (σ.opd x) (a.eval x) := by
  cases x with
  | tmp t =>
    simp only [St.opd, Act.eval]
    cases ht : σ.slots[t]? with
    | some s => have := h.slot t s ht; rw [List.getD, ht]; exact this
    | none =>
      have : a.tmps.size ≤ t := by rw [h.size]; simpa using ht
      rw [List.getD, ht]
      have e : a.tmps.getD t undef = undef := by simp [Array.getD, Nat.not_lt.2 this]
      rw [e]; rfl
  | const v => exact constSV_rel v
  | global g => trivial
  | func f => exact ⟨#[], rfl, rfl, by simp⟩

/-- one more slot is told -/
theorem Inv.put {K : Ctx} {σ : St} {gh : Gh} {a : Act} {w : World} (h : Inv K σ gh a w) {s : SV} {v : Value} (dst : Option Tmp) (hs : SV.rel K.Φ K.ρ w gh s v) (hd : dstOk K.wok dst = true) :
    Inv K ⟨putSlot σ.slots dst s, σ.res⟩ gh (a.put dst v) w := by
  cases dst with
  | none => exact h
  | some d =>
    refine ⟨h.defers, by simp [Act.put, putSlot, h.size], fun n t ht => ?_, fun n hn => ?_, h.os, h.tape, h.output, h.grow, h.pr, h.prlt, h.Flt, h.beta, h.vr0, h.res, h.own, h.inj, h.le0, h.Fpr⟩
    · simp only [putSlot, List.getElem?_set] at ht
      simp only [Act.put]
      split at ht
      · rename_i e; subst e
        split at ht
        · rename_i hl
          simp at ht; subst ht
          have : d < a.tmps.size := by rw [h.size]; exact hl
          simpa [Array.getD, this] using hs
        · cases ht
      · rename_i e
        have := h.slot n t ht
        have e2 : (a.tmps.setIfInBounds d v).getD n undef = a.tmps.getD n undef := by
          simp only [Array.getD_eq_getD_getElem?, Array.getElem?_setIfInBounds]
          rw [if_neg e]
        rw [e2]; exact this
    · have hne : d ≠ n := by rintro rfl; simp [dstOk] at hd; simp [hd] at hn
      have e2 : (a.tmps.setIfInBounds d v).getD n undef = a.tmps.getD n undef := by
        simp only [Array.getD_eq_getD_getElem?, Array.getElem?_setIfInBounds]
        rw [if_neg hne]
      simp only [Act.put]
      rw [e2]; exact h.kept n hn

end Go.RV
