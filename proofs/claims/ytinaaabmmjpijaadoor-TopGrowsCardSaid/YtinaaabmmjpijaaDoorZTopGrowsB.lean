/-
 RV: the tables of packages: block and entries.; RV, part 3: what a symbolic state says of a frame and a world; what keeps it.; RV, part 4: the operations that only compute.; RV, part 5: operators; addresses.; RV, part 6: addresses and loads.; RV, part 7: how a state goes over into the next one where memory turns.
-/
import Derived.Lib.TrailingZeros
import Derived.Test.YtinaaabmmjpijaaDoorZTopGrowsA
namespace Go.RV
def tabs : List (Nat × List Nat) := [(0, Go.Lib.deBruijn32tab), (1, Go.Lib.deBruijn64tab)]
end Go.RV
namespace Go.RV
open Go.RowKit
structure Gh where
 β : Nat → Option Nat
 rv : Nat → Value
 vr : Nat → Nat
 F : Nat → Prop
section
variable (Φ : FuncId → List D → List D) (ρ : List D)
def SC.rel (w : World) (gh : Gh) : SC → Value → Prop
  | .x ct e, v => Rep w gh.F ct v (e.d Φ ρ)
  | .ptr r off, v => ∃ b, gh.β r = some b ∧ v = .pointer (some ⟨b, off, none⟩)
  | .ea e cts s i off, v => ∃ g o len cap, Rep w gh.F (.sl e cts) (.slice (some ⟨g, o, none⟩) len cap) (s.d Φ ρ) ∧ 0 ≤ (i.d Φ ρ).int ∧ (i.d Φ ρ).int < len ∧
      v = .pointer (some ⟨g, o + (i.d Φ ρ).int.toNat * cts.length + off, none⟩)
  | .pa cts p off, v => ∃ g o, Rep w gh.F (.pt cts) (.pointer (some ⟨g, o, none⟩)) (p.d Φ ρ) ∧ v = .pointer (some ⟨g, o + off, none⟩)
  | .row r ver, v => (∃ a n c, v = .slice a n c) ∧ 1 ≤ ver ∧ ver ≤ gh.vr r ∧ (gh.vr r = ver → v = gh.rv r)
  | .ra r ver n i off, v => (∃ q, v = .pointer (some q)) ∧ 1 ≤ ver ∧ ver ≤ gh.vr r ∧ (gh.vr r = ver → ∃ b len cap, gh.rv r = .slice (some ⟨b, 0, none⟩) len cap ∧ 0 ≤ (i.d Φ ρ).int ∧ (i.d Φ ρ).int < len ∧
      v = .pointer (some ⟨b, (i.d Φ ρ).int.toNat * n + off, none⟩))
  | .da r base n i, v => ∃ b, gh.β r = some b ∧ 0 ≤ (i.d Φ ρ).int ∧ (i.d Φ ρ).int < n ∧ v = .pointer (some ⟨b, base + (i.d Φ ρ).int.toNat, none⟩)
  | .dr r base n k i, v => ∃ b, gh.β r = some b ∧ 0 ≤ (i.d Φ ρ).int ∧ (i.d Φ ρ).int < n ∧ v = .pointer (some ⟨b, base + (i.d Φ ρ).int.toNat * k, none⟩)
  | .pdr cts p base n k i, v => ∃ g o, Rep w gh.F (.pt cts) (.pointer (some ⟨g, o, none⟩)) (p.d Φ ρ) ∧ 0 ≤ (i.d Φ ρ).int ∧ (i.d Φ ρ).int < n ∧ v = .pointer (some ⟨g, o + (base + (i.d Φ ρ).int.toNat * k), none⟩)
  | .fn f caps, v => ∃ vs : Array Value, v = .func (.func f) #[] vs ∧ vs.size = caps.length ∧ ∀ j c, caps[j]? = some c → ∃ b, gh.β c.1 = some b ∧ vs.getD j undef = .pointer (some ⟨b, c.2, none⟩)
  | .cst c, v => v = c ∧ c.oneCell' = true
  | .any, _ => True
def relS (w : World) (gh : Gh) : List SC → List Value → Prop
 | [], [] => True
 | s :: ss, v :: vs => SC.rel Φ ρ w gh s v ∧ relS w gh ss vs
 | _, _ => False
def relT (w : World) (gh : Gh) : List (Bool × List SC) → List Value → Prop
 | [], [] => True
 | p :: ps, v :: vs => (if p.1 then ∃ us : Array Value, v = .agg us ∧ relS Φ ρ w gh p.2 us.toList else relS Φ ρ w gh p.2 [v]) ∧ relT w gh ps vs
 | _, _ => False
def SV.rel (w : World) (gh : Gh) : SV → Value → Prop
 | .c s, v => SC.rel Φ ρ w gh s v
 | .agg cs, v => ∃ vs : Array Value, v = .agg vs ∧ relS Φ ρ w gh cs vs.toList
 | .tup ps, v => ∃ vs : Array Value, v = .tuple vs ∧ relT Φ ρ w gh ps vs.toList
 | .grd g s, v => if (g.d Φ ρ).bool = true then SV.rel w gh s v else v = undef
 | .und, v => v = undef
 | .any, _ => True
def OwnR (w : World) (e : TypeId) (size : Nat) (v : Value) (n : Nat) (xs : List Value) : Prop :=
 (xs = [] ∧ n = 0 ∧ ∃ q, v = .slice q 0 0) ∨
 ∃ g cap cur, v = .slice (some ⟨g, 0, none⟩) n cap ∧ 0 < cap ∧ xs.length = n * size ∧ w.heap[g]? = some (.cells cur e (0, 0)) ∧ n ≤ cap ∧ cap ≤ maxLen ∧ cur.size = cap * size ∧ cur.toList.take (n * size) = xs
def ownB : Value → Option Nat
 | .slice (some a) _ (_ + 1) => some a.block
 | _ => none
theorem OwnR.of {w : World} {base : Nat} {e : TypeId} {size : Nat} {v : Value} {n : Nat} {xs : List Value} (h : w.ownsRow base e size v n xs) : OwnR w e size v n xs := by
 obtain ⟨h1, ⟨h2, h3⟩ | ⟨g, cap, cur, h2, _, h3, h4, h5, h6, h7⟩⟩ := h
 ·exact .inl ⟨by rw [h3, Nat.zero_mul] at h1; exact List.length_eq_zero_iff.1 h1, h3, _, h2⟩
 ·by_cases hc : cap = 0
  ·have hn : n = 0 := by omega
   subst hc hn
   rw [Nat.zero_mul] at h1
   exact .inl ⟨List.length_eq_zero_iff.1 h1, rfl, _, h2⟩
  ·exact .inr ⟨g, cap, cur, h2, by omega, h1, h3, h4, h5, h6, h7⟩
theorem OwnR.owns {w : World} {e : TypeId} {size : Nat} {v : Value} {n : Nat} {xs : List Value} (h : OwnR w e size v n xs) : (xs = [] ∧ n = 0 ∧ ∃ q, v = .slice q 0 0) ∨ (w.ownsRow 0 e size v n xs ∧ ∃ g cap, v = .slice (some ⟨g, 0, none⟩) n (cap + 1)) := by
 rcases h with h | ⟨g, cap, cur, h1, h2, h3, h4⟩
 ·exact .inl h
 ·obtain ⟨c, rfl⟩ : ∃ c, cap = c + 1 := ⟨cap - 1, by omega⟩
  exact .inr ⟨⟨h3, .inr ⟨g, c + 1, cur, h1, Nat.zero_le _, h4⟩⟩, g, c, h1⟩
theorem OwnR.len {w : World} {e : TypeId} {size : Nat} {v : Value} {n : Nat} {xs : List Value} (h : OwnR w e size v n xs) : xs.length = n * size := by
 rcases h with ⟨rfl, rfl, _⟩ | ⟨_, _, _, _, _, h3, _⟩
 ·simp
 ·exact h3
theorem OwnR.slice {w : World} {e : TypeId} {size : Nat} {v : Value} {n : Nat} {xs : List Value} (h : OwnR w e size v n xs) : ∃ q m c, v = .slice q m c := by
 rcases h with ⟨_, _, q, rfl⟩ | ⟨_, _, _, rfl, _⟩
 ·exact ⟨_, _, _, rfl⟩
 ·exact ⟨_, _, _, rfl⟩
theorem ownB_own {v : Value} {b : Nat} (h : ownB v = some b) : v.ownBlock = some b := by
 unfold ownB at h
 split at h
 ·exact h
 ·cases h
def RowRep (w : World) (F : Nat → Prop) (cts : List CT) (xs : List (List D)) (vals : List Value) : Prop :=
 ∀ i, i < xs.length → (xs.getD i []).length = cts.length ∧ ∀ j ct, cts[j]? = some ct → Rep w F ct (vals.getD (i * cts.length + j) undef) ((xs.getD i []).getD j default)
def ResOk (w : World) (gh : Gh) (r : Nat) : RK → Prop
 | .box ety cells frz => ∃ b cur, gh.β r = some b ∧ w.heap[b]? = some (.cells cur ety (0, 0)) ∧ relS Φ ρ w gh cells cur.toList ∧ (frz = true → gh.F b)
 | .row ety cts content ver frz => gh.vr r = ver ∧ 1 ≤ ver ∧ (∀ q n c, gh.rv r = .slice (some q) n c → 0 < c → ∃ b, q = ⟨b, 0, none⟩) ∧
   if frz then Rep w gh.F (.sl ety cts) (gh.rv r) (content.d Φ ρ)
   else ∃ xs vals, content.d Φ ρ = .l xs ∧ OwnR w ety cts.length (gh.rv r) xs.length vals ∧ RowRep w gh.F cts xs vals
end
def RK.live (gh : Gh) (r : Nat) : RK → Option Nat
 | .box _ _ false => gh.β r
 | .row _ _ _ _ false => ownB (gh.rv r)
 | _ => none
structure Gh.le (gh gh' : Gh) : Prop where
 β : ∀ r b, gh.β r = some b → gh'.β r = some b
 vr : ∀ r, gh.vr r ≤ gh'.vr r
 rv : ∀ r, 1 ≤ gh.vr r → gh'.vr r = gh.vr r → gh'.rv r = gh.rv r
 F : ∀ b, gh.F b → gh'.F b
theorem Gh.le.refl (gh : Gh) : gh.le gh := ⟨fun _ _ h => h, fun _ => Nat.le_refl _, fun _ _ _ => rfl, fun _ h => h⟩
theorem Gh.le.trans {g1 g2 g3 : Gh} (h : g1.le g2) (k : g2.le g3) : g1.le g3 :=
 ⟨fun r b hb => k.β r b (h.β r b hb), fun r => Nat.le_trans (h.vr r) (k.vr r), fun r h1 h2 => by
  have a1 := h.vr r
  have a2 := k.vr r
  rw [k.rv r (by omega) (by omega), h.rv r h1 (by omega)], fun b hb => k.F b (h.F b hb)⟩
structure Ctx where
 Φ : FuncId → List D → List D
 ρ : List D
 Pr : Nat → Prop
 w0 : World
 wok : Nat → Bool
 a0 : Act
 gh0 : Gh
def Res.on (K : Ctx) (x : Res) : Prop := (x.g.d K.Φ K.ρ).bool = true
def St.has (σ : St) (r : Nat) (x : Res) : Prop := σ.res[r]? = some (some x)
def TabIn (w : World) (F : Nat → Prop) : Prop := ∀ e ∈ tabs, F e.1 ∧ ∀ j, j < e.2.length → w.cell? ⟨e.1, j, none⟩ = some (.int .u8 (e.2.getD j 0))
theorem TabIn.mono {w w' : World} {F F' : Nat → Prop} (hF : ∀ b, F b → F' b) (hw : ∀ b, F b → w'.heap[b]? = w.heap[b]?) (h : TabIn w F) : TabIn w' F' := fun e he => ⟨hF _ (h e he).1, fun j hj => by
 have h1 := (h e he).2 j hj
 unfold World.cell? at h1 ⊢
 rw [hw _ (h e he).1]
 exact h1⟩
structure Inv (K : Ctx) (σ : St) (gh : Gh) (a : Act) (w : World) : Prop where
 defers : a.defers = []
 size : a.tmps.size = σ.slots.length
 slot : ∀ n s, σ.slots[n]? = some s → SV.rel K.Φ K.ρ w gh s (a.tmps.getD n undef)
 kept : ∀ n, K.wok n = false → a.tmps.getD n undef = K.a0.tmps.getD n undef
 os : w.os = K.w0.os
 tape : w.tape = K.w0.tape
 output : w.output = K.w0.output
 grow : K.w0.heap.size ≤ w.heap.size
 pr : ∀ b, K.Pr b → w.heap[b]? = K.w0.heap[b]?
 prlt : ∀ b, K.Pr b → b < K.w0.heap.size
 Flt : ∀ b, gh.F b → b < w.heap.size
 beta : ∀ r b, gh.β r = some b → ∃ x, σ.has r x ∧ x.on K
 vr0 : ∀ r, 1 ≤ gh.vr r → ∃ x, σ.has r x ∧ x.on K
 res : ∀ r x, σ.has r x → x.on K → ResOk K.Φ K.ρ w gh r x.k
 own : ∀ r x b, σ.has r x → x.on K → x.k.live gh r = some b → ¬ K.Pr b ∧ ¬ gh.F b ∧ b < w.heap.size
 inj : ∀ r x r' x' b, σ.has r x → x.on K → σ.has r' x' → x'.on K → x.k.live gh r = some b → x'.k.live gh r' = some b → r = r'
 le0 : K.gh0.le gh
 Fpr : ∀ b, gh.F b → K.gh0.F b ∨ ¬ K.Pr b
 tab : TabIn w gh.F
section
variable {Φ : FuncId → List D → List D} {ρ : List D} {w w' : World} {gh gh' : Gh}
theorem SC.rel_mono (hle : gh.le gh') (hw : ∀ b, gh.F b → w'.heap[b]? = w.heap[b]?) {s : SC} {v : Value} (h : SC.rel Φ ρ w gh s v) : SC.rel Φ ρ w' gh' s v := by
 cases s with
 | x ct e => exact Rep.mono hle.F hw h
 | ptr r off => obtain ⟨b, h1, h2⟩ := h; exact ⟨b, hle.β _ _ h1, h2⟩
 | ea e cts s i off => obtain ⟨g, o, len, cap, h1, h2⟩ := h; exact ⟨g, o, len, cap, Rep.mono hle.F hw h1, h2⟩
 | pa cts p off => obtain ⟨g, o, h1, h2⟩ := h; exact ⟨g, o, Rep.mono hle.F hw h1, h2⟩
 | row r ver =>
  obtain ⟨h0, h1, h2, h3⟩ := h
  refine ⟨h0, h1, Nat.le_trans h2 (hle.vr r), fun e => ?_⟩
  have e' : gh'.vr r = gh.vr r := by have := hle.vr r; omega
  rw [hle.rv r (by omega) e']
  exact h3 (by omega)
 | ra r ver n i off =>
  obtain ⟨h0, h1, h2, h3⟩ := h
  refine ⟨h0, h1, Nat.le_trans h2 (hle.vr r), fun e => ?_⟩
  have e' : gh'.vr r = gh.vr r := by have := hle.vr r; omega
  rw [hle.rv r (by omega) e']
  exact h3 (by omega)
 | da r base n i => obtain ⟨b, h1, h2⟩ := h; exact ⟨b, hle.β _ _ h1, h2⟩
 | dr r base n k i => obtain ⟨b, h1, h2⟩ := h; exact ⟨b, hle.β _ _ h1, h2⟩
 | pdr cts p base n k i => obtain ⟨g, o, h1, h2⟩ := h; exact ⟨g, o, Rep.mono hle.F hw h1, h2⟩
 | fn f caps =>
  obtain ⟨vs, h1, h2, h3⟩ := h
  exact ⟨vs, h1, h2, fun j c hc => let ⟨b, hb, hv⟩ := h3 j c hc; ⟨b, hle.β _ _ hb, hv⟩⟩
 | cst c => exact h
 | any => trivial
theorem relS_mono (hle : gh.le gh') (hw : ∀ b, gh.F b → w'.heap[b]? = w.heap[b]?) : ∀ {ss : List SC} {vs : List Value}, relS Φ ρ w gh ss vs → relS Φ ρ w' gh' ss vs
 | [], [], _ => trivial
 | _ :: _, _ :: _, h => ⟨SC.rel_mono hle hw h.1, relS_mono hle hw h.2⟩
 | [], _ :: _, h => h.elim
 | _ :: _, [], h => h.elim
theorem relT_mono (hle : gh.le gh') (hw : ∀ b, gh.F b → w'.heap[b]? = w.heap[b]?) : ∀ {ss : List (Bool × List SC)} {vs : List Value}, relT Φ ρ w gh ss vs → relT Φ ρ w' gh' ss vs
 | [], [], _ => trivial
 | p :: _, _ :: _, h => by
  refine ⟨?_, relT_mono hle hw h.2⟩
  have h1 := h.1
  split at h1
  ·obtain ⟨us, e, hr⟩ := h1; rename_i hp; rw [if_pos hp]; exact ⟨us, e, relS_mono hle hw hr⟩
  ·rename_i hp; rw [if_neg hp]; exact relS_mono hle hw h1
 | [], _ :: _, h => h.elim
 | _ :: _, [], h => h.elim
theorem SV.rel_mono (hle : gh.le gh') (hw : ∀ b, gh.F b → w'.heap[b]? = w.heap[b]?) : ∀ {s : SV} {v : Value}, SV.rel Φ ρ w gh s v → SV.rel Φ ρ w' gh' s v
 | .c _, _, h => SC.rel_mono hle hw h
 | .agg _, _, ⟨vs, e, h⟩ => ⟨vs, e, relS_mono hle hw h⟩
 | .tup _, _, ⟨vs, e, h⟩ => ⟨vs, e, relT_mono hle hw h⟩
 | .grd g s, v, h => by
  unfold SV.rel at h ⊢
  split
  ·rename_i hg; rw [if_pos hg] at h; exact SV.rel_mono hle hw h
  ·rename_i hg; rw [if_neg hg] at h; exact h
 | .und, _, h => h
 | .any, _, _ => trivial
theorem RowRep.mono {F F' : Nat → Prop} (hF : ∀ b, F b → F' b) (hw : ∀ b, F b → w'.heap[b]? = w.heap[b]?) {cts : List CT} {xs : List (List D)} {vals : List Value}
  (h : RowRep w F cts xs vals) : RowRep w' F' cts xs vals :=
 fun i hi => ⟨(h i hi).1, fun j ct hc => ((h i hi).2 j ct hc).mono hF hw⟩
theorem relS_length : ∀ {ss : List SC} {vs : List Value}, relS Φ ρ w gh ss vs → ss.length = vs.length
 | [], [], _ => rfl
 | _ :: _, _ :: _, h => by simp [relS_length h.2]
 | [], _ :: _, h => h.elim
 | _ :: _, [], h => h.elim
theorem relS_get : ∀ {ss : List SC} {vs : List Value}, relS Φ ρ w gh ss vs → ∀ {j s}, ss[j]? = some s → SC.rel Φ ρ w gh s (vs.getD j undef)
 | [], [], _, _, _, h => by simp at h
 | s :: ss, v :: vs, h, 0, t, ht => by simp at ht; subst ht; simpa using h.1
 | s :: ss, v :: vs, h, j + 1, t, ht => by simp at ht; simpa using relS_get h.2 ht
 | [], _ :: _, h, _, _, _ => h.elim
 | _ :: _, [], h, _, _, _ => h.elim
theorem relS_append {ss ts : List SC} {vs us : List Value} (h : relS Φ ρ w gh ss vs) (k : relS Φ ρ w gh ts us) : relS Φ ρ w gh (ss ++ ts) (vs ++ us) := by
 induction ss generalizing vs with
 | nil => cases vs with
  | nil => exact k
  | cons v vs => exact h.elim
 | cons s ss ih => cases vs with
  | nil => exact h.elim
  | cons v vs => exact ⟨h.1, ih h.2⟩
theorem relS_take : ∀ {ss : List SC} {vs : List Value} (n : Nat), relS Φ ρ w gh ss vs → relS Φ ρ w gh (ss.take n) (vs.take n)
 | [], [], n, _ => by simp [relS]
 | s :: ss, v :: vs, 0, _ => by simp [relS]
 | s :: ss, v :: vs, n + 1, h => ⟨h.1, relS_take n h.2⟩
 | [], _ :: _, _, h => h.elim
 | _ :: _, [], _, h => h.elim
theorem relS_drop : ∀ {ss : List SC} {vs : List Value} (n : Nat), relS Φ ρ w gh ss vs → relS Φ ρ w gh (ss.drop n) (vs.drop n)
 | [], [], n, _ => by simp [relS]
 | s :: ss, v :: vs, 0, h => h
 | s :: ss, v :: vs, n + 1, h => relS_drop n h.2
 | [], _ :: _, _, h => h.elim
 | _ :: _, [], _, h => h.elim
theorem relS_setRange {ss cs : List SC} {vs us : List Value} (off : Nat) (h : relS Φ ρ w gh ss vs) (k : relS Φ ρ w gh cs us) :
  relS Φ ρ w gh (setRange ss off cs) (vs.take off ++ us ++ vs.drop (off + us.length)) := by
 unfold setRange
 rw [relS_length k]
 exact relS_append (relS_append (relS_take off h) k) (relS_drop _ h)
theorem SC.rel_oneCell {s : SC} {v : Value} (h : SC.rel Φ ρ w gh s v) (hs : s ≠ .any) : v.oneCell' = true := by
 cases s with
 | x ct e => exact Rep.oneCell h
 | ptr r off => obtain ⟨b, h1, rfl⟩ := h; rfl
 | ea e cts s i off => obtain ⟨g, o, len, cap, h1, h2, h3, rfl⟩ := h; rfl
 | pa cts p off => obtain ⟨g, o, h1, rfl⟩ := h; rfl
 | row r ver => obtain ⟨⟨a, n, c, rfl⟩, _⟩ := h; rfl
 | ra r ver n i off => obtain ⟨⟨q, rfl⟩, _⟩ := h; rfl
 | da r base n i => obtain ⟨b, h1, h2, h3, rfl⟩ := h; rfl
 | dr r base n k i => obtain ⟨b, h1, h2, h3, rfl⟩ := h; rfl
 | pdr cts p base n k i => obtain ⟨g, o, h1, h2, h3, rfl⟩ := h; rfl
 | fn f caps => obtain ⟨vs, rfl, _⟩ := h; rfl
 | cst c => obtain ⟨rfl, hc⟩ := h; exact hc
 | any => exact absurd rfl hs
theorem relS_oneCell : ∀ {ss : List SC} {vs : List Value}, relS Φ ρ w gh ss vs → noAny ss = true → ∀ v ∈ vs, v.oneCell' = true
 | [], [], _, _ => by simp
 | s :: ss, v :: vs, h, hn => by
  have hs : s ≠ .any := by rintro rfl; simp [noAny] at hn
  have hn' : noAny ss = true := by cases s <;> simp_all [noAny]
  intro u hu
  cases hu with
  | head => exact SC.rel_oneCell h.1 hs
  | tail _ hu => exact relS_oneCell h.2 hn' u hu
 | [], _ :: _, h, _ => h.elim
 | _ :: _, [], h, _ => h.elim
theorem entails_sound (g : X) : ∀ (G : X), entails g G = true → (G.d Φ ρ).bool = true → (g.d Φ ρ).bool = true := by
 have tt_sound : ∀ g : X, isTt g = true → (g.d Φ ρ).bool = true := by
  intro g h
  cases g <;> simp [isTt] at h
  subst h; rfl
 intro G
 induction G with
 | ite a b c iha ihb ihc =>
  intro h hG
  simp only [entails, Bool.or_eq_true, Bool.and_eq_true] at h
  rcases h with (h | h) | ⟨hc, h⟩
  ·rw [← X.beq_eq _ _ h]; exact hG
  ·exact tt_sound g h
  ·have hc' := X.beq_eq _ _ hc
   subst hc'
   have hab : (a.d Φ ρ).bool = true ∧ (b.d Φ ρ).bool = true := by
    simp only [X.d] at hG
    split at hG
    ·exact ⟨‹_›, hG⟩
    ·simp at hG
   rcases h with h | h
   ·exact iha h hab.1
   ·exact ihb h hab.2
 | _ =>
  intro h hG
  simp only [entails, Bool.or_eq_true] at h
  rcases h with h | h
  ·rw [← X.beq_eq _ _ h]; exact hG
  ·exact tt_sound g h
theorem isTt_sound {g : X} (h : isTt g = true) : (g.d Φ ρ).bool = true := by
 cases g <;> simp [isTt] at h
 subst h; rfl
theorem strip_rel {G : X} (hG : (G.d Φ ρ).bool = true) : ∀ {s : SV} {v : Value}, SV.rel Φ ρ w gh s v → SV.rel Φ ρ w gh (strip G s) v
 | .grd g s, v, h => by
  unfold strip
  split
  ·rename_i he
   have hg := entails_sound g G he hG
   unfold SV.rel at h
   rw [if_pos hg] at h
   exact strip_rel hG h
  ·exact h
 | .c _, _, h => h
 | .agg _, _, h => h
 | .tup _, _, h => h
 | .und, _, h => h
 | .any, _, h => h
theorem constSC_rel (v : Value) : SC.rel Φ ρ w gh (constSC v) v := by
 unfold constSC
 split
 ·split
  ·exact Rep.int ‹_›
  ·trivial
 ·exact Rep.bool
 ·split
  ·exact Rep.str ‹_›
  ·trivial
 ·split
  ·exact ⟨rfl, ‹_›⟩
  ·trivial
theorem relS_const : ∀ (vs : List Value), relS Φ ρ w gh (vs.map constSC) vs
 | [] => trivial
 | v :: vs => ⟨constSC_rel v, relS_const vs⟩
theorem constSV_rel (v : Value) : SV.rel Φ ρ w gh (constSV v) v := by
 unfold constSV
 split
 ·rename_i cs; exact ⟨cs, rfl, relS_const cs.toList⟩
 ·trivial
 ·exact constSC_rel v
end
theorem Inv.opd {K : Ctx} {σ : St} {gh : Gh} {a : Act} {w : World} (h : Inv K σ gh a w) (x : Operand) : SV.rel K.Φ K.ρ w gh (σ.opd x) (a.eval x) := by
 cases x with
 | tmp t =>
  simp only [St.opd, Act.eval]
  cases ht : σ.slots[t]? with
  | some s => have := h.slot t s ht; rw [List.getD, ht]; exact this
  | none =>
   have : a.tmps.size ≤ t := by rw [h.size]; simpa using ht
   rw [List.getD, ht]
   have e : a.tmps.getD t undef = undef := by simp [Array.getD, Nat.not_lt.2 this]
   rw [e]; rfl
 | const v => exact constSV_rel v
 | global g => trivial
 | func f => exact ⟨#[], rfl, rfl, by simp⟩
theorem Inv.put {K : Ctx} {σ : St} {gh : Gh} {a : Act} {w : World} (h : Inv K σ gh a w) {s : SV} {v : Value} (dst : Option Tmp) (hs : SV.rel K.Φ K.ρ w gh s v) (hd : dstOk K.wok dst = true) :
  Inv K ⟨putSlot σ.slots dst s, σ.res⟩ gh (a.put dst v) w := by
 cases dst with
 | none => exact h
 | some d =>
  refine ⟨h.defers, by simp [Act.put, putSlot, h.size], fun n t ht => ?_, fun n hn => ?_, h.os, h.tape, h.output, h.grow, h.pr, h.prlt, h.Flt, h.beta, h.vr0, h.res, h.own, h.inj, h.le0, h.Fpr, h.tab⟩
  ·simp only [putSlot, List.getElem?_set] at ht
   simp only [Act.put]
   split at ht
   ·rename_i e; subst e
    split at ht
    ·rename_i hl
     simp at ht; subst ht
     have : d < a.tmps.size := by rw [h.size]; exact hl
     simpa [Array.getD, this] using hs
    ·cases ht
   ·rename_i e
    have := h.slot n t ht
    have e2 : (a.tmps.setIfInBounds d v).getD n undef = a.tmps.getD n undef := by
     simp only [Array.getD_eq_getD_getElem?, Array.getElem?_setIfInBounds]
     rw [if_neg e]
    rw [e2]; exact this
  ·have hne : d ≠ n := by rintro rfl; simp [dstOk] at hd; simp [hd] at hn
   have e2 : (a.tmps.setIfInBounds d v).getD n undef = a.tmps.getD n undef := by
    simp only [Array.getD_eq_getD_getElem?, Array.getElem?_setIfInBounds]
    rw [if_neg hne]
   simp only [Act.put]
   rw [e2]; exact h.kept n hn
end Go.RV
namespace Go.RV
open Go.RowKit
def Does (P : Program) (o : Oper) (a : Act) (w : World) (R : Value → World → Prop) : Prop :=
 ∀ (Kn : Act → World → Prop) (Q : Exit → Act → World → Prop), (∀ v w', R v w' → Kn (a.put o.dst v) w') → o.wp P a w Kn Q
section
variable {P : Program} {o : Oper} {a : Act} {w w' : World} {R : Value → World → Prop}
theorem Does.val {v : Value} (h : (execOp a.eval o).run P w = .ok (.value v) w') (hR : R v w') : Does P o a w R := by
 intro Kn Q hk; unfold Oper.wp; rw [h]; exact hk v w' hR
theorem Does.skip (h : (execOp a.eval o).run P w = .ok .skip w') (hR : R undef w') : Does P o a w R := by
 intro Kn Q hk; unfold Oper.wp; rw [h]; exact hk undef w' hR
theorem Does.enter {f : FuncId} {args : Array Value} (h : (execOp a.eval o).run P w = .ok (.enter f args) w') (hc : Calls P f args w' (fun e w'' => ∃ v, e = .returned v ∧ R v w'')) : Does P o a w R := by
 intro Kn Q hk; unfold Oper.wp; rw [h]
 simp only [Oper.upon]
 refine hc.mono fun e w'' ⟨v, he, hR⟩ => ?_
 subst he
 exact hk v w'' hR
theorem Does.mono {R' : Value → World → Prop} (h : Does P o a w R) (hr : ∀ v w', R v w' → R' v w') : Does P o a w R' := fun Kn Q hk => h Kn Q fun v w' hR => hk v w' (hr v w' hR)
end
def Nd.holds (pre : FuncId → List D → Prop) (Φ : FuncId → List D → List D) (ρ : List D) : Nd → Prop
 | .c x => (x.d Φ ρ).bool = true
 | .pre f as => pre f (as.ds Φ ρ)
 | .pg g f as => (g.d Φ ρ).bool = true → pre f (as.ds Φ ρ)
 | .ct g cts e => (g.d Φ ρ).bool = true → ∃ t xs, e.d Φ ρ = .c t cts xs
def EffOk (K : Ctx) (σ : St) (P : Program) (o : Oper) (a : Act) (w : World) (eo : EO) : Prop :=
 Does P o a w (fun v w' => ∃ gh', Inv K ⟨σ.slots, setAll σ.res eo.wr⟩ gh' a w' ∧ SV.rel K.Φ K.ρ w' gh' eo.val v)
section
variable {P : Program} {K : Ctx} {σ : St} {gh : Gh} {a : Act} {w : World} {o : Oper}
theorem EffOk.pure (h : Inv K σ gh a w) {v : Value} {s : SV} {nd : List Nd} (hr : (execOp a.eval o).run P w = .ok (.value v) w) (hs : SV.rel K.Φ K.ρ w gh s v) : EffOk K σ P o a w ⟨s, [], nd⟩ :=
 Does.val hr ⟨gh, h, hs⟩
theorem rep_int {F : Nat → Prop} {k : IntKind} {v : Value} {d : D} (h : Rep w F (.int k) v d) : v = .int k d.int ∧ d = .i d.int ∧ k.min ≤ d.int ∧ d.int ≤ k.max := by
 cases h with
 | int h => exact ⟨rfl, rfl, h⟩
theorem rep_bool {F : Nat → Prop} {v : Value} {d : D} (h : Rep w F .bool v d) : v = .bool d.bool ∧ d = .b d.bool := by
 cases h with
 | bool => exact ⟨rfl, rfl⟩
theorem rep_str {F : Nat → Prop} {v : Value} {d : D} (h : Rep w F .str v d) : v = .string d.str ∧ d = .s d.str ∧ d.str.size ≤ maxLen := by
 cases h with
 | str h => exact ⟨rfl, rfl, h⟩
theorem rep_mk_int {F : Nat → Prop} {k : IntKind} {n m : Int} (e : n = m) (h : k.min ≤ n ∧ n ≤ k.max) : Rep w F (.int k) (.int k n) (.i m) := by subst e; exact .int h
theorem rep_mk_bool {F : Nat → Prop} {n m : Bool} (e : n = m) : Rep w F .bool (.bool n) (.b m) := by subst e; exact .bool
theorem eff_move (h : Inv K σ gh a w) {x : Operand} (ho : o.op = .move x ∨ o.op = .assign x) {G : X} (hG : (G.d K.Φ K.ρ).bool = true) {eo : EO}
  (he : (RM.done ⟨strip G (σ.opd x), [], []⟩).run σ.res = some eo) : EffOk K σ P o a w eo := by
 simp only [RM.run, si0] at he
 subst he
 refine EffOk.pure h (v := a.eval x) ?_ (strip_rel hG (h.opd x))
 rcases ho with ho | ho <;> simp [execOp, ho]
theorem X.d_andX (x y : X) : ((andX x y).d K.Φ K.ρ).bool = ((x.d K.Φ K.ρ).bool && (y.d K.Φ K.ρ).bool) := by
 unfold andX
 split
 ·rename_i hx; rw [isTt_sound hx]; rfl
 ·split
  ·rename_i hy; rw [isTt_sound (Φ := K.Φ) (ρ := K.ρ) hy]; simp
  ·simp only [X.d]; cases (x.d K.Φ K.ρ).bool <;> simp
theorem X.d_notX (x : X) : ((notX x).d K.Φ K.ρ) = .b (!(x.d K.Φ K.ρ).bool) := rfl
theorem eff_pick (h : Inv K σ gh a w) {c x y : Operand} (ho : o.op = .pick c x y) {G : X} (hG : (G.d K.Φ K.ρ).bool = true) {eo : EO}
  (he : (effPick G (strip G (σ.opd c)) (strip G (σ.opd x)) (strip G (σ.opd y))).run σ.res = some eo) : EffOk K σ P o a w eo := by
 have hc := strip_rel hG (h.opd c)
 have hx := strip_rel hG (h.opd x)
 have hy := strip_rel hG (h.opd y)
 unfold effPick at he
 split at he
 ·rename_i ec hec
  split at he
  ·rename_i ea eb h1 h2
   simp only [RM.run, si0] at he
   subst he
   rw [hec] at hc
   obtain ⟨hv, hd⟩ := rep_bool hc
   have hrun : (execOp a.eval o).run P w = .ok (.value (if (ec.d K.Φ K.ρ).bool then a.eval x else a.eval y)) w := by
    simp [execOp, ho, hv, asBool]
   refine EffOk.pure h hrun ?_
   cases hb : (ec.d K.Φ K.ρ).bool with
   | true =>
    have := strip_rel (G := andX G ec) (by rw [X.d_andX, hG, hb]; rfl) hx
    rw [h1] at this
    simpa [SV.rel, SC.rel, X.d, hb] using this
   | false =>
    have := strip_rel (G := andX G (notX ec)) (by rw [X.d_andX, hG, X.d_notX, hb]; rfl) hy
    rw [h2] at this
    simpa [SV.rel, SC.rel, X.d, hb] using this
  ·simp [RM.run] at he
 ·simp [RM.run] at he
theorem eff_nilCheck (h : Inv K σ gh a w) {x : Operand} (ho : o.op = .nilCheck x) {G : X} (hG : (G.d K.Φ K.ρ).bool = true) {eo : EO} {pre : FuncId → List D → Prop}
  (he : (effNilCheck (strip G (σ.opd x))).run σ.res = some eo) (hn : ∀ n ∈ eo.nd, n.holds pre K.Φ K.ρ) : EffOk K σ P o a w eo := by
 have hx := strip_rel hG (h.opd x)
 have key : ∀ {s : SV}, SV.rel K.Φ K.ρ w gh s (a.eval x) → (∃ q, a.eval x = .pointer (some q)) → EffOk K σ P o a w ⟨s, [], []⟩ := by
  intro s hs ⟨q, hq⟩
  refine EffOk.pure h (v := a.eval x) ?_ hs
  simp [execOp, ho, hq]
 by_cases hpn : ∃ cts p, strip G (σ.opd x) = .c (.x (.pn cts) p)
 ·obtain ⟨cts, p, e⟩ := hpn
  rw [e] at he hx
  unfold effNilCheck at he
  simp only at he
  split at he
  ·simp [RM.run] at he
  ·rename_i hc
   simp only [RM.run, si0] at he
   subst he
   have hx' : Rep w gh.F (.pn cts) (a.eval x) (p.d K.Φ K.ρ) := hx
   have h1 := hn _ (List.mem_singleton.2 rfl)
   have h1 : ((p.d K.Φ K.ρ).ptd.length == cts.length) = true := h1
   generalize hd : p.d K.Φ K.ρ = d at hx' h1
   generalize hv : a.eval x = v at hx'
   cases hx' with
   | pnz =>
    exfalso
    cases cts with
    | nil => exact hc rfl
    | cons _ _ => cases h1
   | pns hp =>
    have hp' := hp
    cases hp with
    | pt _ _ _ _ _ =>
     refine EffOk.pure h (v := a.eval x) (by simp [execOp, ho, hv]) ?_
     show Rep w gh.F (.pt cts) (a.eval x) (p.d K.Φ K.ρ)
     rw [hv, hd]
     exact hp'
 unfold effNilCheck at he
 split at he
 all_goals first
  | (rename_i e; exact (hpn ⟨_, _, e⟩).elim)
  | simp only [RM.run, si0, reduceCtorEq] at he
 all_goals subst he
 all_goals rename_i e
 all_goals rw [e] at hx ⊢
 all_goals refine key hx ?_
 ·obtain ⟨b, _, hv⟩ := hx; exact ⟨_, hv⟩
 ·obtain ⟨g, o, len, cap, _, _, _, hv⟩ := hx; exact ⟨_, hv⟩
 ·obtain ⟨g, o, _, hv⟩ := hx; exact ⟨_, hv⟩
 ·exact hx.1
 ·obtain ⟨b, _, _, _, hv⟩ := hx; exact ⟨_, hv⟩
 ·obtain ⟨b, _, _, _, hv⟩ := hx; exact ⟨_, hv⟩
 ·obtain ⟨g, o, _, _, _, hv⟩ := hx; exact ⟨_, hv⟩
 ·have hx' : Rep w gh.F _ (a.eval x) _ := hx
  generalize a.eval x = v at hx'
  generalize X.d K.Φ K.ρ _ = d at hx'
  cases hx'
  exact ⟨_, rfl⟩
theorem eff_un (h : Inv K σ gh a w) {op : UnOp} {t : TypeId} {x : Operand} (ho : o.op = .unOp op t x) {G : X} (hG : (G.d K.Φ K.ρ).bool = true) {eo : EO}
  (he : (effUn op (strip G (σ.opd x))).run σ.res = some eo) : EffOk K σ P o a w eo := by
 have hx := strip_rel hG (h.opd x)
 unfold effUn at he
 split at he <;> simp only [RM.run, si0, reduceCtorEq] at he <;> subst he <;> rename_i e <;> rw [e] at hx
 ·obtain ⟨hv, hd, _⟩ := rep_int hx
  refine EffOk.pure h (v := .int _ (IntKind.wrap _ (0 - (X.d K.Φ K.ρ _).int))) ?_ (rep_mk_int rfl (wrap_within _ _))
  simp [execOp, ho, hv, Op.unary, Op.intArith]
 ·obtain ⟨hv, hd⟩ := rep_bool hx
  refine EffOk.pure h (v := .bool (!(X.d K.Φ K.ρ _).bool)) ?_ (rep_mk_bool rfl)
  simp [execOp, ho, hv, Op.unary]
theorem eff_convert (h : Inv K σ gh a w) {s d : TypeId} {x : Operand} (ho : o.op = .convert s d x) {G : X} (hG : (G.d K.Φ K.ρ).bool = true) {eo : EO}
  (he : (effConvert P s d (strip G (σ.opd x))).run σ.res = some eo) : EffOk K σ P o a w eo := by
 have hx := strip_rel hG (h.opd x)
 unfold effConvert at he
 split at he <;> simp only [RM.run, si0, reduceCtorEq] at he <;> subst he <;> rename_i us ud e <;> rw [e] at hx
 ·obtain ⟨hv, hd, _⟩ := rep_int hx
  refine EffOk.pure h (v := .int _ (IntKind.wrap _ (X.d K.Φ K.ρ _).int)) ?_ (rep_mk_int rfl (wrap_within _ _))
  simp [execOp, ho, hv, convert, run_underlying us, run_underlying ud, Conv.intToInt]
 ·obtain ⟨hv, hd, hs⟩ := rep_str hx
  refine EffOk.pure h (v := a.eval x) ?_ hx
  rw [hv]
  simp [execOp, ho, hv, convert, run_underlying us, run_underlying ud]
theorem rel_mkVal {ag : Bool} {cs : List SC} {s : SV} (h : mkVal ag cs = some s) {vs : List Value} (hr : relS K.Φ K.ρ w gh cs vs) :
  SV.rel K.Φ K.ρ w gh s (if ag then .agg vs.toArray else vs.headD undef) := by
 unfold mkVal at h
 cases ag with
 | true => simp at h; subst h; exact ⟨vs.toArray, rfl, by simpa using hr⟩
 | false =>
  simp only [fe0, if_false] at h
  split at h
  ·simp at h; subst h
   match vs, hr with
   | [v], hr => exact hr.1
  ·simp at h
theorem mkVal_one {cs : List SC} {s : SV} (h : mkVal false cs = some s) : cs.length = 1 := by
 unfold mkVal at h
 simp only [fe0, if_false] at h
 split at h
 ·rfl
 ·simp at h
theorem eff_extract (h : Inv K σ gh a w) {x : Operand} {i : Nat} (ho : o.op = .extract x i) {G : X} (hG : (G.d K.Φ K.ρ).bool = true) {eo : EO}
  (he : (effExtract (strip G (σ.opd x)) i).run σ.res = some eo) : EffOk K σ P o a w eo := by
 have hx := strip_rel hG (h.opd x)
 unfold effExtract at he
 split at he
 ·rename_i vs e
  rw [e] at hx
  obtain ⟨us, hu, hr⟩ := hx
  split at he
  ·rename_i ag cs hi
   unfold RM.val at he
   split at he
   ·rename_i s hs
    simp only [RM.run, si0] at he
    subst he
    have key : ∀ (ps : List (Bool × List SC)) (ul : List Value) (i : Nat), relT K.Φ K.ρ w gh ps ul → ps[i]? = some (ag, cs) → ∃ u, ul[i]? = some u ∧ SV.rel K.Φ K.ρ w gh s u := by
     intro ps
     induction ps with
     | nil => intro ul i _ h; simp at h
     | cons p ps ih =>
      intro ul i hT hi
      cases ul with
      | nil => exact hT.elim
      | cons u ul =>
       cases i with
       | zero =>
        simp at hi; subst hi
        refine ⟨u, rfl, ?_⟩
        have h1 := hT.1
        cases ag with
        | true =>
         simp only [if_true] at h1
         obtain ⟨as, rfl, hr⟩ := h1
         have := rel_mkVal hs hr
         simpa using this
        | false =>
         have := rel_mkVal hs h1
         simpa using this
       | succ i => exact ih ul i hT.2 (by simpa using hi)
    obtain ⟨u, hui, hru⟩ := key vs us.toList i hr hi
    refine EffOk.pure h (v := u) ?_ hru
    have : us[i]? = some u := by simpa using hui
    simp [execOp, ho, hu, Instr.extract, this]
   ·simp [RM.run] at he
  ·simp [RM.run] at he
 ·simp [RM.run] at he
theorem run_sizeT {t : TypeId} {n : Nat} (h : sizeT P t = some n) (w : World) : (sizeOf t).run P w = .ok n w := by
 unfold sizeT at h
 cases hi : P.info? t with
 | none => simp [hi] at h
 | some i => simp [hi] at h; subst h; simp [sizeOf, typeInfo, hi]
theorem run_aggT {t : TypeId} {ag : Bool} (h : aggT P t = some ag) (w : World) : (isAgg t).run P w = .ok ag w := by
 unfold aggT at h
 cases hu : P.underlying t with
 | none => simp [hu] at h
 | some d =>
  simp [hu] at h
  subst h
  simp only [isAgg, Sem.run_bind, run_underlying hu, Result.andThen_ok]
  cases d <;> rfl
theorem run_part {t : TypeId} {n : Nat} {ag : Bool} (hs : sizeT P t = some n) (ha : aggT P t = some ag) (cs : Array Value) (off : Nat) (hl : off + n ≤ cs.size) (h1 : ag = false → n = 1) (w : World) :
  (part t cs off).run P w = .ok (if ag then .agg ((cs.toList.drop off).take n).toArray else ((cs.toList.drop off).take n).headD undef) w := by
 simp only [part, Sem.run_bind, run_aggT ha, Result.andThen_ok, Sem.run_ite]
 cases ag with
 | true =>
  simp only [if_true, run_sizeT hs, Result.andThen_ok, Sem.run_pure]
  congr 2
  apply Array.ext'
  simp [Array.toList_extract]
 | false =>
  have hn := h1 rfl
  subst hn
  have hlt : off < cs.size := by omega
  have : cs[off]? = some cs[off] := by simp [hlt]
  simp only [fe0, if_false, this, Sem.run_pure]
  congr 1
  rw [List.take_one]
  simp [List.head?_drop, hlt]
theorem eff_field (h : Inv K σ gh a w) {t : TypeId} {x : Operand} {f : Nat} (ho : o.op = .field t x f) {G : X} (hG : (G.d K.Φ K.ρ).bool = true) {eo : EO}
  (he : (effField P t (strip G (σ.opd x)) f).run σ.res = some eo) : EffOk K σ P o a w eo := by
 have hx := strip_rel hG (h.opd x)
 unfold effField at he
 split at he
 ·rename_i fs hu
  split at he
  ·rename_i fd hf
   split at he
   ·rename_i n ag cs hs ha e
    rw [e] at hx
    obtain ⟨us, hv, hr⟩ := hx
    split at he
    ·rename_i hle
     unfold RM.val at he
     split at he
     ·rename_i s hm
      simp only [RM.run, si0] at he
      subst he
      have hlen := relS_length hr
      have hle' : fd.offset + n ≤ us.size := by have := Nat.le_of_ble_eq_true hle; simp at hlen; omega
      have hrr := relS_take n (relS_drop fd.offset hr)
      refine EffOk.pure h (v := _) ?_ (rel_mkVal hm hrr)
      have h1 : ag = false → n = 1 := by
       intro hag; subst hag
       have := mkVal_one hm
       simp at hlen this
       omega
      have := run_part (P := P) hs ha us fd.offset hle' h1 w
      simp [execOp, ho, hv, Instr.field, run_underlying hu, hf, asAgg, this]
     ·simp [RM.run] at he
    ·simp [RM.run] at he
   ·simp [RM.run] at he
  ·simp [RM.run] at he
 ·simp [RM.run] at he
end
end Go.RV
namespace Go.RV
open Go.RowKit
section
variable {P : Program} {K : Ctx} {σ : St} {gh : Gh} {a : Act} {w : World} {o : Oper}
theorem tmod_within {k : IntKind} {n m : Int} (hn : k.min ≤ n ∧ n ≤ k.max) : k.min ≤ n.tmod m ∧ n.tmod m ≤ k.max := by
 have h0 : k.min ≤ 0 := by cases k <;> decide
 have h1 : 0 ≤ k.max := by cases k <;> decide
 have hle : (n.tmod m).natAbs ≤ n.natAbs := by rw [Int.natAbs_tmod]; exact Nat.mod_le _ _
 rcases Int.le_total 0 n with hp | hp
 ·have a1 := Int.tmod_nonneg m hp
  omega
 ·have e : n.tmod m = -((-n).tmod m) := by rw [Int.neg_tmod]; omega
  have a1 := Int.tmod_nonneg m (show 0 ≤ -n by omega)
  omega
theorem fdiv_within {k : IntKind} {n : Int} (m : Nat) (hn : k.min ≤ n ∧ n ≤ k.max) : k.min ≤ n.fdiv (2 ^ m) ∧ n.fdiv (2 ^ m) ≤ k.max := by
 have hp : (0 : Int) < 2 ^ m := Int.pow_pos (by omega)
 have e : n.fdiv (2 ^ m) = n / (2 ^ m) := Int.fdiv_eq_ediv_of_nonneg _ (by omega)
 rw [e]
 have h0 : k.min ≤ 0 := by cases k <;> decide
 have h1 : 0 ≤ k.max := by cases k <;> decide
 rcases Int.le_total 0 n with h | h
 ·have a1 := Int.ediv_nonneg h (Int.le_of_lt hp)
  have a2 := Int.ediv_le_self (2 ^ m) h
  omega
 ·have a1 : n / 2 ^ m ≤ 0 := Int.ediv_nonpos_of_nonpos_of_neg h hp
  have a2 : n ≤ n / 2 ^ m := by
   rw [Int.le_ediv_iff_mul_le hp]
   have := Int.mul_le_mul_of_nonpos_left h (show (1 : Int) ≤ 2 ^ m by omega)
   omega
  omega
theorem run_binOp {op : BinOp} {t t' : TypeId} {x y : Operand} (ho : o.op = .binOp op t x y t') {v u r : Value} (hv : a.eval x = v) (hu : a.eval y = u)
  (hg : (eqGuard op t x y v u).run P w = .ok () w) (hr : (binOp op t v u).run P w = .ok r w) : (execOp a.eval o).run P w = .ok (.value r) w := by
 simp [execOp, ho, hv, hu, hg, hr]
theorem guard_int {op : BinOp} {t : TypeId} {x y : Operand} {k k' : IntKind} {n m : Int} : (eqGuard op t x y (.int k n) (.int k' m)).run P w = .ok () w := by
 simp [eqGuard]
theorem guard_bool {op : BinOp} {t : TypeId} {x y : Operand} {n m : Bool} : (eqGuard op t x y (.bool n) (.bool m)).run P w = .ok () w := by
 simp [eqGuard]
theorem guard_str {op : BinOp} {t : TypeId} {x y : Operand} {n m : ByteArray} : (eqGuard op t x y (.string n) (.string m)).run P w = .ok () w := by
 simp [eqGuard]
theorem quoNd_ne {y : X} {pre : FuncId → List D → Prop} (h : ∀ n ∈ quoNd y, n.holds pre K.Φ K.ρ) : (y.d K.Φ K.ρ).int ≠ 0 := by
 unfold quoNd at h
 split at h
 ·rename_i z
  by_cases hz : z = 0
  ·simp [hz, Nd.holds, X.d] at h
  ·simpa [X.d] using hz
 ·have := h _ (List.mem_singleton.2 rfl)
  simpa [Nd.holds, X.d_notX, X.d, Op2.ev] using this
theorem shNd_ge {y : X} {pre : FuncId → List D → Prop} (h : ∀ n ∈ shNd y, n.holds pre K.Φ K.ρ) : 0 ≤ (y.d K.Φ K.ρ).int := by
 unfold shNd at h
 split at h
 ·rename_i z
  by_cases hz : 0 ≤ z
  ·simpa [X.d] using hz
  ·simp [hz, Nd.holds, X.d] at h
 ·have := h _ (List.mem_singleton.2 rfl)
  have h2 := of_decide_eq_true (p := (0 : Int) ≤ (y.d K.Φ K.ρ).int) this
  exact h2
theorem eff_bin_int (h : Inv K σ gh a w) {op : BinOp} {t t' : TypeId} {x y : Operand} (ho : o.op = .binOp op t x y t') {k k' : IntKind} {ex ey : X}
  (hx : Rep w gh.F (.int k) (a.eval x) (ex.d K.Φ K.ρ)) (hy : Rep w gh.F (.int k') (a.eval y) (ey.d K.Φ K.ρ)) {eo : EO} {pre : FuncId → List D → Prop}
  (he : (effBin P op t (.c (.x (.int k) ex)) (.c (.x (.int k') ey))).run σ.res = some eo) (hn : ∀ n ∈ eo.nd, n.holds pre K.Φ K.ρ) : EffOk K σ P o a w eo := by
 obtain ⟨hv, hd, hb⟩ := rep_int hx
 obtain ⟨hu, hd', hb'⟩ := rep_int hy
 have go : ∀ {s : SV} {nd : List Nd} {r : Value}, (binOp op t (.int k (ex.d K.Φ K.ρ).int) (.int k' (ey.d K.Φ K.ρ).int)).run P w = .ok r w → SV.rel K.Φ K.ρ w gh s r → EffOk K σ P o a w ⟨s, [], nd⟩ :=
  fun hr hs => EffOk.pure h (run_binOp ho hv hu guard_int hr) hs
 unfold effBin at he
 simp only at he
 split at he
 ·simp only [RM.run, si0] at he
  subst he
  have h0 := shNd_ge hn
  exact go (r := .int k (k.wrap ((ex.d K.Φ K.ρ).int * 2 ^ min (ey.d K.Φ K.ρ).int.toNat k.bits))) (by simp [binOp, Op.shift, Int.not_lt.2 h0]) (rep_mk_int rfl (wrap_within _ _))
 ·simp only [RM.run, si0] at he
  subst he
  have h0 := shNd_ge hn
  exact go (r := .int k ((ex.d K.Φ K.ρ).int.fdiv (2 ^ min (ey.d K.Φ K.ρ).int.toNat k.bits))) (by simp [binOp, Op.shift, Int.not_lt.2 h0]) (rep_mk_int rfl (fdiv_within _ hb))
 ·split at he
  ·rename_i hk
   simp only [decide_eq_true_eq] at hk
   subst hk
   split at he <;> simp only [RM.run, si0, reduceCtorEq] at he <;> subst he
   ·exact go (r := .int k (k.wrap ((ex.d K.Φ K.ρ).int + (ey.d K.Φ K.ρ).int))) (by simp [binOp, Op.intArith]) (rep_mk_int rfl (wrap_within _ _))
   ·exact go (r := .int k (k.wrap ((ex.d K.Φ K.ρ).int - (ey.d K.Φ K.ρ).int))) (by simp [binOp, Op.intArith]) (rep_mk_int rfl (wrap_within _ _))
   ·exact go (r := .int k (k.wrap ((ex.d K.Φ K.ρ).int * (ey.d K.Φ K.ρ).int))) (by simp [binOp, Op.intArith]) (rep_mk_int rfl (wrap_within _ _))
   ·have h0 := quoNd_ne hn
    exact go (r := .int k (k.wrap ((ex.d K.Φ K.ρ).int.tdiv (ey.d K.Φ K.ρ).int))) (by simp [binOp, Op.intDiv, h0]) (rep_mk_int rfl (wrap_within _ _))
   ·have h0 := quoNd_ne hn
    exact go (r := .int k ((ex.d K.Φ K.ρ).int.tmod (ey.d K.Φ K.ρ).int)) (by simp [binOp, Op.intDiv, h0]) (rep_mk_int rfl (tmod_within hb))
   ·exact go (r := .int k (k.wrap (BitVec.ofInt k.bits (ex.d K.Φ K.ρ).int &&& BitVec.ofInt k.bits (ey.d K.Φ K.ρ).int).toNat)) (by simp [binOp, Op.intBits]) (rep_mk_int rfl (wrap_within _ _))
   ·exact go (r := .int k (k.wrap (BitVec.ofInt k.bits (ex.d K.Φ K.ρ).int ||| BitVec.ofInt k.bits (ey.d K.Φ K.ρ).int).toNat)) (by simp [binOp, Op.intBits]) (rep_mk_int rfl (wrap_within _ _))
   ·exact go (r := .int k (k.wrap (BitVec.ofInt k.bits (ex.d K.Φ K.ρ).int &&& ~~~BitVec.ofInt k.bits (ey.d K.Φ K.ρ).int).toNat)) (by simp [binOp, Op.intBits]) (rep_mk_int rfl (wrap_within _ _))
   ·exact go (r := .bool ((ex.d K.Φ K.ρ).int == (ey.d K.Φ K.ρ).int)) (by simp [binOp, Op.intCmp]) (rep_mk_bool rfl)
   ·exact go (r := .bool ((ex.d K.Φ K.ρ).int != (ey.d K.Φ K.ρ).int)) (by simp [binOp, Op.intCmp]) (rep_mk_bool rfl)
   ·exact go (r := .bool (decide ((ex.d K.Φ K.ρ).int < (ey.d K.Φ K.ρ).int))) (by simp [binOp, Op.intCmp]) (rep_mk_bool rfl)
   ·exact go (r := .bool (decide ((ex.d K.Φ K.ρ).int ≤ (ey.d K.Φ K.ρ).int))) (by simp [binOp, Op.intCmp]) (rep_mk_bool rfl)
   ·exact go (r := .bool (decide ((ex.d K.Φ K.ρ).int > (ey.d K.Φ K.ρ).int))) (by simp [binOp, Op.intCmp]) (rep_mk_bool rfl)
   ·exact go (r := .bool (decide ((ex.d K.Φ K.ρ).int ≥ (ey.d K.Φ K.ρ).int))) (by simp [binOp, Op.intCmp]) (rep_mk_bool rfl)
  ·simp [RM.run] at he
theorem eff_bin_bool (h : Inv K σ gh a w) {op : BinOp} {t t' : TypeId} {x y : Operand} (ho : o.op = .binOp op t x y t') {ex ey : X}
  (hx : Rep w gh.F .bool (a.eval x) (ex.d K.Φ K.ρ)) (hy : Rep w gh.F .bool (a.eval y) (ey.d K.Φ K.ρ)) {eo : EO}
  (he : (effBin P op t (.c (.x .bool ex)) (.c (.x .bool ey))).run σ.res = some eo) : EffOk K σ P o a w eo := by
 obtain ⟨hv, hd⟩ := rep_bool hx
 obtain ⟨hu, hd'⟩ := rep_bool hy
 have go : ∀ {s : SV} {nd : List Nd} {r : Value}, (binOp op t (.bool (ex.d K.Φ K.ρ).bool) (.bool (ey.d K.Φ K.ρ).bool)).run P w = .ok r w → SV.rel K.Φ K.ρ w gh s r → EffOk K σ P o a w ⟨s, [], nd⟩ :=
  fun hr hs => EffOk.pure h (run_binOp ho hv hu guard_bool hr) hs
 unfold effBin at he
 simp only at he
 split at he
 ·rename_i ut
  simp only [RM.run, si0] at he
  subst he
  exact go (r := .bool ((ex.d K.Φ K.ρ).bool == (ey.d K.Φ K.ρ).bool)) (by simp [binOp, run_equal_bool w t _ _ ut]) (rep_mk_bool rfl)
 ·rename_i ut
  simp only [RM.run, si0] at he
  subst he
  exact go (r := .bool !((ex.d K.Φ K.ρ).bool == (ey.d K.Φ K.ρ).bool)) (by simp [binOp, run_equal_bool w t _ _ ut]) (rep_mk_bool rfl)
 ·simp [RM.run] at he
theorem eff_bin_str (h : Inv K σ gh a w) {op : BinOp} {t t' : TypeId} {x y : Operand} (ho : o.op = .binOp op t x y t') {ex ey : X}
  (hx : Rep w gh.F .str (a.eval x) (ex.d K.Φ K.ρ)) (hy : Rep w gh.F .str (a.eval y) (ey.d K.Φ K.ρ)) {eo : EO}
  (he : (effBin P op t (.c (.x .str ex)) (.c (.x .str ey))).run σ.res = some eo) : EffOk K σ P o a w eo := by
 obtain ⟨hv, hd, _⟩ := rep_str hx
 obtain ⟨hu, hd', _⟩ := rep_str hy
 have go : ∀ {s : SV} {nd : List Nd} {r : Value}, (binOp op t (.string (ex.d K.Φ K.ρ).str) (.string (ey.d K.Φ K.ρ).str)).run P w = .ok r w → SV.rel K.Φ K.ρ w gh s r → EffOk K σ P o a w ⟨s, [], nd⟩ :=
  fun hr hs => EffOk.pure h (run_binOp ho hv hu guard_str hr) hs
 unfold effBin at he
 simp only at he
 split at he
 ·simp only [RM.run, si0] at he
  subst he
  exact go (r := .bool ((ex.d K.Φ K.ρ).str == (ey.d K.Φ K.ρ).str)) (by rw [beq_toListBytes]; simp [binOp, Op.stringOp]) (rep_mk_bool rfl)
 ·simp only [RM.run, si0] at he
  subst he
  exact go (r := .bool !((ex.d K.Φ K.ρ).str == (ey.d K.Φ K.ρ).str)) (by rw [beq_toListBytes]; simp [binOp, Op.stringOp]) (rep_mk_bool rfl)
 ·simp [RM.run] at he
inductive Scal : CT → Value → Value → Bool → Prop where
 | int {k : IntKind} {n m : Int} : Scal (.int k) (.int k n) (.int k m) (n == m)
 | bool {n m : Bool} : Scal .bool (.bool n) (.bool m) (n == m)
 | str {n m : ByteArray} : Scal .str (.string n) (.string m) (n == m)
inductive ScalL : List CT → List Value → List Value → Bool → Prop where
 | nil : ScalL [] [] [] true
 | cons {ct : CT} {v u : Value} {b : Bool} {cts : List CT} {vs us : List Value} {bs : Bool} (h : Scal ct v u b) (t : ScalL cts vs us bs) : ScalL (ct :: cts) (v :: vs) (u :: us) (b && bs)
theorem ScalL.split {cts : List CT} : ∀ {cts1 : List CT} {vs us : List Value} {b : Bool}, ScalL (cts1 ++ cts) vs us b →
  ∃ vs1 vs2 us1 us2 b1 b2, vs = vs1 ++ vs2 ∧ us = us1 ++ us2 ∧ ScalL cts1 vs1 us1 b1 ∧ ScalL cts vs2 us2 b2 ∧ b = (b1 && b2)
 | [], vs, us, b, h => ⟨[], vs, [], us, true, b, rfl, rfl, .nil, h, by simp⟩
 | ct :: cts1, _, _, _, .cons h t => by
  obtain ⟨vs1, vs2, us1, us2, b1, b2, rfl, rfl, h1, h2, rfl⟩ := ScalL.split t
  exact ⟨_ :: vs1, vs2, _ :: us1, us2, _, b2, rfl, rfl, .cons h h1, h2, by simp [Bool.and_assoc]⟩
theorem ScalL.len {cts : List CT} {vs us : List Value} {b : Bool} (h : ScalL cts vs us b) : vs.length = cts.length ∧ us.length = cts.length := by
 induction h with
 | nil => exact ⟨rfl, rfl⟩
 | cons _ _ ih => simp [ih.1, ih.2]
def EqOk (P : Program) (d : Nat) (t : TypeId) (cts : List CT) : Prop :=
 ∃ ag, aggT P t = some ag ∧ (ag = false → cts.length = 1) ∧ ∀ (vs us : List Value) (b : Bool), ScalL cts vs us b → ∀ w, (Op.equalIn (d + 1) t (if ag then .agg vs.toArray else vs.headD undef) (if ag then .agg us.toArray else us.headD undef)).run P w = .ok b w
theorem eqFs_ok {get : TypeId → Option (List CT)} {d : Nat} (ih : ∀ t cts, get t = some cts → EqOk P d t cts) : ∀ (fs : List Field) (off : Nat) (cts : List CT), eqFs P get off fs = some cts →
  ∀ (xs ys : Array Value) (b : Bool), off + cts.length = xs.size → off + cts.length = ys.size → ScalL cts (xs.toList.drop off) (ys.toList.drop off) b → ∀ w, (Op.eqFields (d + 1) xs ys fs).run P w = .ok b w
 | [], off, cts, he, xs, ys, b, _, _, h, w => by
  simp only [eqFs, si0] at he
  subst he
  generalize xs.toList.drop off = l1 at h
  generalize ys.toList.drop off = l2 at h
  cases h
  simp [Op.eqFields]
 | f :: fs, off, cts, he, xs, ys, b, hx, hy, h, w => by
  simp only [eqFs] at he
  split at he
  ·rename_i a1 hg
   split at he
   ·rename_i hc
    simp only [Bool.and_eq_true, beq_iff_eq, bne_iff_ne] at hc
    obtain ⟨⟨hn, ho⟩, hs⟩ := hc
    cases hr : eqFs P get (off + a1.length) fs with
    | none => simp [hr] at he
    | some a2 =>
     simp only [hr, Option.map_some, si0] at he
     subst he
     obtain ⟨ag, hag, h1, heq⟩ := ih _ _ hg
     obtain ⟨vs1, vs2, us1, us2, b1, b2, e1, e2, hh1, hh2, rfl⟩ := ScalL.split h
     have hsz : sizeT P f.type = some a1.length := by
      unfold sizeEq at hs
      split at hs
      ·rename_i m hm; rw [hm]; simpa using hs
      ·cases hs
     have l1 := hh1.len
     have hxl : off + a1.length ≤ xs.size := by rw [← hx]; simp
     have hyl : off + a1.length ≤ ys.size := by rw [← hy]; simp
     have p1 := run_part (P := P) hsz hag xs off hxl h1 w
     have p2 := run_part (P := P) hsz hag ys off hyl h1 w
     rw [e1, ← l1.1, List.take_left'] at p1
     rw [e2, ← l1.2, List.take_left'] at p2
     have hrec := eqFs_ok ih fs (off + a1.length) a2 hr xs ys b2 (by rw [← hx]; simp [Nat.add_assoc]) (by rw [← hy]; simp [Nat.add_assoc])
      (by rw [← List.drop_drop, ← List.drop_drop, e1, e2, ← l1.1, List.drop_left', l1.1, ← l1.2, List.drop_left']; exact hh2; rfl; rfl) w
     simp only [Op.eqFields, hn, ne_eq, not_false_eq_true, if_true, ho, Sem.run_bind, p1, p2, Result.andThen_ok, heq vs1 us1 b1 hh1 w]
     cases b1 <;> simp [hrec]
     all_goals rfl
   ·cases he
  ·cases he
theorem eqT_ok : ∀ (fuel : Nat) (t : TypeId) (cts : List CT), eqT P fuel t = some cts → ∀ d, fuel ≤ d + 1 → EqOk P d t cts
 | 0, _, _, he, _, _ => by simp [eqT] at he
 | fuel + 1, t, cts, he, d, hd => by
  unfold eqT at he
  split at he
  ·rename_i k hu
   simp only [si0] at he
   subst he
   refine ⟨false, by simp [aggT, hu], fun _ => rfl, fun vs us b h w => ?_⟩
   cases h with
   | cons h t => cases h; cases t; simp [Op.equalIn, run_underlying hu]
  ·rename_i hu
   simp only [si0] at he
   subst he
   refine ⟨false, by simp [aggT, hu], fun _ => rfl, fun vs us b h w => ?_⟩
   cases h with
   | cons h t => cases h; cases t; simp [Op.equalIn, run_underlying hu]
  ·rename_i hu
   simp only [si0] at he
   subst he
   refine ⟨false, by simp [aggT, hu], fun _ => rfl, fun vs us b h w => ?_⟩
   cases h with
   | cons h t => cases h; cases t; simp [Op.equalIn, run_underlying hu]
  ·rename_i fs hu
   split at he
   ·cases he
   ·rename_i hst
    refine ⟨true, by simp [aggT, hu], fun h => (by cases h), fun vs us b h w => ?_⟩
    have hfs : P.fieldsOf t = fs := by simp [Program.fieldsOf, hu]
    have := run_equalIn_struct (P := P) w d t vs.toArray us.toArray (by rw [hfs]; exact hu) (by simpa using hst)
    simp only [if_true]
    rw [this, hfs]
    have l := h.len
    cases d with
    | zero =>
     have : fuel = 0 := by omega
     subst this
     cases hl : fs.toList with
     | nil =>
      rw [hl] at he
      simp only [eqFs, si0] at he
      subst he
      cases h
      simp [Op.eqFields]
     | cons f r => rw [hl] at he; simp [eqFs, eqT] at he
    | succ d =>
     exact eqFs_ok (fun t' cts' h' => eqT_ok fuel t' cts' h' d (by omega)) fs.toList 0 cts he vs.toArray us.toArray b (by simp [l.1]) (by simp [l.2]) (by simpa using h) w
  ·cases he
theorem eqCells_ok : ∀ {cts : List CT} {cs cs' : List SC} {r : X}, eqCells cts cs cs' = some r → ∀ (vs us : List Value), relS K.Φ K.ρ w gh cs vs → relS K.Φ K.ρ w gh cs' us → ScalL cts vs us (r.d K.Φ K.ρ).bool
 | cts, cs, cs', r, he => by
  unfold eqCells at he
  split at he
  ·simp only [si0] at he
   subst he
   intro vs us h1 h2
   cases vs with
   | nil => cases us with
    | nil => exact .nil
    | cons => exact h2.elim
   | cons => exact h1.elim
  ·rename_i k cts k1 x cs k2 y cs'
   split at he
   ·rename_i hk
    simp only [Bool.and_eq_true, decide_eq_true_eq] at hk
    obtain ⟨rfl, rfl⟩ := hk
    cases hr : eqCells cts cs cs' with
    | none => simp [hr] at he
    | some r' =>
     simp only [hr, Option.map_some, si0] at he
     subst he
     intro vs us h1 h2
     match vs, us, h1, h2 with
     | v :: vs, u :: us, h1, h2 =>
      rw [X.d_andX]
      obtain ⟨hv, _, _⟩ := rep_int h1.1
      obtain ⟨hu, _, _⟩ := rep_int h2.1
      rw [hv, hu]
      exact .cons .int (eqCells_ok hr _ _ h1.2 h2.2)
   ·cases he
  ·rename_i cts x cs y cs'
   cases hr : eqCells cts cs cs' with
   | none => simp [hr] at he
   | some r' =>
    simp only [hr, Option.map_some, si0] at he
    subst he
    intro vs us h1 h2
    match vs, us, h1, h2 with
    | v :: vs, u :: us, h1, h2 =>
     rw [X.d_andX]
     obtain ⟨hv, _⟩ := rep_bool h1.1
     obtain ⟨hu, _⟩ := rep_bool h2.1
     rw [hv, hu]
     exact .cons .bool (eqCells_ok hr _ _ h1.2 h2.2)
  ·rename_i cts x cs y cs'
   cases hr : eqCells cts cs cs' with
   | none => simp [hr] at he
   | some r' =>
    simp only [hr, Option.map_some, si0] at he
    subst he
    intro vs us h1 h2
    match vs, us, h1, h2 with
    | v :: vs, u :: us, h1, h2 =>
     rw [X.d_andX]
     obtain ⟨hv, _, _⟩ := rep_str h1.1
     obtain ⟨hu, _, _⟩ := rep_str h2.1
     rw [hv, hu]
     exact .cons .str (eqCells_ok hr _ _ h1.2 h2.2)
  ·cases he
theorem X.b_andX {x y : X} (hx : x.d K.Φ K.ρ = .b (x.d K.Φ K.ρ).bool) (hy : y.d K.Φ K.ρ = .b (y.d K.Φ K.ρ).bool) : (andX x y).d K.Φ K.ρ = .b ((andX x y).d K.Φ K.ρ).bool := by
 unfold andX
 split
 ·exact hy
 ·split
  ·exact hx
  ·simp only [X.d]
   split
   ·exact hy
   ·rfl
theorem eqCells_b : ∀ {cts : List CT} {cs cs' : List SC} {r : X}, eqCells cts cs cs' = some r → r.d K.Φ K.ρ = .b (r.d K.Φ K.ρ).bool
 | cts, cs, cs', r, he => by
  unfold eqCells at he
  split at he
  ·simp only [si0] at he
   subst he
   rfl
  ·rename_i k cts k1 x cs k2 y cs'
   split at he
   ·cases hr : eqCells cts cs cs' with
    | none => simp [hr] at he
    | some r' =>
     simp only [hr, Option.map_some, si0] at he
     subst he
     exact X.b_andX rfl (eqCells_b hr)
   ·cases he
  ·rename_i cts x cs y cs'
   cases hr : eqCells cts cs cs' with
   | none => simp [hr] at he
   | some r' =>
    simp only [hr, Option.map_some, si0] at he
    subst he
    exact X.b_andX rfl (eqCells_b hr)
  ·rename_i cts x cs y cs'
   cases hr : eqCells cts cs cs' with
   | none => simp [hr] at he
   | some r' =>
    simp only [hr, Option.map_some, si0] at he
    subst he
    exact X.b_andX rfl (eqCells_b hr)
  ·cases he
theorem rep_mk_bool' {F : Nat → Prop} {d : D} (e : d = .b d.bool) : Rep w F .bool (.bool d.bool) d := by
 have : Rep w F .bool (.bool d.bool) (.b d.bool) := .bool
 rwa [← e] at this
theorem eff_bin_agg (h : Inv K σ gh a w) {op : BinOp} {t t' : TypeId} {x y : Operand} (ho : o.op = .binOp op t x y t') {cs cs' : List SC}
  (hx : SV.rel K.Φ K.ρ w gh (.agg cs) (a.eval x)) (hy : SV.rel K.Φ K.ρ w gh (.agg cs') (a.eval y)) {eo : EO}
  (he : (effBin P op t (.agg cs) (.agg cs')).run σ.res = some eo) : EffOk K σ P o a w eo := by
 obtain ⟨vs, hv, hr⟩ := hx
 obtain ⟨us, hu, hr'⟩ := hy
 unfold effBin at he
 simp only at he
 split at he
 ·rename_i cts hT
  split at he
  ·rename_i r hC
   split at he
   ·rename_i hc
    simp only [Bool.and_eq_true, Bool.not_eq_eq_eq_not, Bool.not_true, beq_iff_eq] at hc
    have hS := eqCells_ok hC _ _ hr hr'
    obtain ⟨ag, hag, _, hEq⟩ := eqT_ok (P := P) 6 t cts hT 9999 (by omega)
    rw [hc.2, si0] at hag
    subst hag
    have heq : (Op.equal t (.agg vs) (.agg us)).run P w = .ok (r.d K.Φ K.ρ).bool w := by
     have := hEq _ _ _ hS w
     simpa [Op.equal, Op.maxDepth] using this
    have hg : ∀ op, (eqGuard op t x y (.agg vs) (.agg us)).run P w = .ok () w := by
     intro op
     simp only [eqGuard]
     split <;> simp [hc.1]
    split at he <;> simp only [RM.run, si0, reduceCtorEq] at he <;> subst he
    ·exact EffOk.pure h (run_binOp ho hv hu (hg _) (r := .bool (r.d K.Φ K.ρ).bool) (by simp [binOp, heq])) (rep_mk_bool' (eqCells_b hC))
    ·exact EffOk.pure h (run_binOp ho hv hu (hg _) (r := .bool !(r.d K.Φ K.ρ).bool) (by simp [binOp, heq])) (rep_mk_bool rfl)
   ·simp [RM.run] at he
  ·simp [RM.run] at he
 ·simp [RM.run] at he
end
end Go.RV
namespace Go.RV
open Go.RowKit
theorem addr_add (b o n : Nat) : (⟨b, o, none⟩ : Addr).add n = ⟨b, o + n, none⟩ := by
 unfold Addr.add; split <;> simp_all
section
variable {P : Program} {K : Ctx} {σ : St} {gh : Gh} {a : Act} {w : World} {o : Oper}
theorem getD_has {r : Nat} {R : Res} (h : σ.res.getD r none = some R) : σ.has r R := by
 unfold St.has
 rw [List.getD] at h
 cases hr : σ.res[r]? with
 | none => rw [hr] at h; cases h
 | some x => rw [hr] at h; simp at h; rw [h]
theorem RM.run_res {r : Nat} {k : Res → RM} {eo : EO} (h : (RM.res r k).run σ.res = some eo) : ∃ R, σ.has r R ∧ (k R).run σ.res = some eo := by
 simp only [RM.run] at h
 split at h
 ·rename_i R hR; exact ⟨R, getD_has hR, h⟩
 ·cases h
theorem RM.run_val {v : Option SV} {nd : List Nd} {eo : EO} (h : (RM.val v nd).run σ.res = some eo) : ∃ s, v = some s ∧ eo = ⟨s, [], nd⟩ := by
 unfold RM.val at h
 split at h
 ·simp only [RM.run, si0] at h; exact ⟨_, rfl, h.symm⟩
 ·simp [RM.run] at h
theorem RM.run_fail {rs : List (Option Res)} {eo : EO} (h : RM.fail.run rs = some eo) : False := by simp [RM.run] at h
theorem RM.run_done {rs : List (Option Res)} {e eo : EO} (h : (RM.done e).run rs = some eo) : e = eo := by simpa [RM.run] using h
theorem cell_at {b off : Nat} {cur : Array Value} {e : TypeId} {fz : Nat × Nat} (hb : w.heap[b]? = some (.cells cur e fz)) : w.cell? ⟨b, off, none⟩ = cur[off]? := by
 simp [World.cell?, hb]
theorem run_loadVar_cells {t : TypeId} {n b off : Nat} {ag : Bool} {cur : Array Value} {e : TypeId} {fz : Nat × Nat} (hs : sizeT P t = some n) (ha : aggT P t = some ag)
  (hb : w.heap[b]? = some (.cells cur e fz)) (hl : off + n ≤ cur.size) (h1 : ag = false → n = 1) :
  (loadVar t ⟨b, off, none⟩).run P w = .ok (if ag then .agg ((cur.toList.drop off).take n).toArray else ((cur.toList.drop off).take n).headD undef) w := by
 simp only [loadVar, Sem.run_bind, run_aggT ha, Result.andThen_ok, Sem.run_ite]
 cases ag with
 | true =>
  have hlen : ((cur.toList.drop off).take n).length = n := by simp; omega
  have hc := run_loadCells_list (P := P) w ⟨b, off, none⟩ ((cur.toList.drop off).take n) (fun j v hj => by
   rw [addr_add, cell_at hb]
   rw [List.getElem?_take] at hj
   split at hj
   ·simpa using hj
   ·cases hj)
  rw [hlen] at hc
  simp only [if_true, run_sizeT hs, Result.andThen_ok, hc, Sem.run_pure]
 | false =>
  have hn := h1 rfl
  subst hn
  have hlt : off < cur.size := by omega
  simp only [fe0, if_false, run_load, cell_at hb]
  have : cur[off]? = some cur[off] := by simp [hlt]
  rw [this]
  simp only
  congr 1
  rw [List.take_one]
  simp [List.head?_drop, hlt]
theorem relS_dataCells {F : Nat → Prop} {cts : List CT} {mk : Nat → X} : ∀ {n off : Nat} {vals : List Value}, vals.length = n → gh.F = F →
  (∀ k, k < n → Rep w F (cts.getD (off + k) .bool) (vals.getD k undef) ((mk (off + k)).d K.Φ K.ρ)) → relS K.Φ K.ρ w gh (dataCells cts mk off n) vals
 | 0, off, [], _, _, _ => trivial
 | n + 1, off, v :: vals, hl, hF, h => by
  refine ⟨?_, relS_dataCells (off := off + 1) (by simpa using hl) hF fun k hk => ?_⟩
  ·have := h 0 (by omega)
   subst hF
   exact this
  ·have := h (k + 1) (by omega)
   rw [show off + 1 + k = off + (k + 1) by omega]
   simpa using this
 | 0, _, _ :: _, hl, _, _ => by simp at hl
 | _ + 1, _, [], hl, _, _ => by simp at hl
theorem ct_at {cts : List CT} {k : Nat} (h : k < cts.length) : cts[k]? = some (cts.getD k .bool) := by
 simp [List.getD, h]
theorem load_core (h : Inv K σ gh a w) {t : TypeId} {x : Operand} (ho : o.op = .load t x) {n : Nat} {ag : Bool} (hs : sizeT P t = some n) (ha : aggT P t = some ag)
  {b off : Nat} {cur : Array Value} {e : TypeId} {fz : Nat × Nat} (hv : a.eval x = .pointer (some ⟨b, off, none⟩)) (hb : w.heap[b]? = some (.cells cur e fz)) (hl : off + n ≤ cur.size)
  {cs : List SC} (hr : relS K.Φ K.ρ w gh cs ((cur.toList.drop off).take n)) {s : SV} (hm : mkVal ag cs = some s) {nd : List Nd} : EffOk K σ P o a w ⟨s, [], nd⟩ := by
 have h1 : ag = false → n = 1 := by
  rintro rfl
  have e1 := mkVal_one hm
  have e2 := relS_length hr
  simp at e2
  omega
 refine EffOk.pure h ?_ (rel_mkVal hm hr)
 have := run_loadVar_cells (P := P) hs ha hb hl h1
 simp [execOp, ho, hv, Instr.loadAt, Instr.sureAddr, this]
theorem rep_sl {F : Nat → Prop} {e : TypeId} {cts : List CT} {g oo len cap : Nat} {d : D} (h : Rep w F (.sl e cts) (.slice (some ⟨g, oo, none⟩) len cap) d) {i0 : Int} (h0 : 0 ≤ i0) (hi0 : i0 < len) :
  ∃ cur t fz, F g ∧ w.heap[g]? = some (.cells cur t fz) ∧ len ≤ cap ∧ cap ≤ maxLen ∧ oo + cap * cts.length ≤ cur.size ∧ d = .l d.lst ∧ d.lst.length = len ∧ (∀ i, i < len → (d.lst.getD i []).length = cts.length) ∧
   ∀ i j ct, i < len → cts[j]? = some ct → Rep w F ct (cur.getD (oo + i * cts.length + j) undef) ((d.lst.getD i []).getD j default) := by
 cases h with
 | nil => simp at hi0; omega
 | sl hF hg hl hm hc hn hx hr => exact ⟨_, _, _, hF, hg, hl, hm, hc, rfl, hn, hx, hr⟩
theorem rep_sl_any {F : Nat → Prop} {e : TypeId} {cts : List CT} {v : Value} {d : D} (h : Rep w F (.sl e cts) v d) :
  ((∃ q, v = .slice q 0 0) ∧ d = .l []) ∨ ∃ g oo len cap, v = .slice (some ⟨g, oo, none⟩) len cap ∧ d.lst.length = len ∧ len ≤ cap := by
 cases h with
 | nil => exact .inl ⟨⟨_, rfl⟩, rfl⟩
 | sl hF hg hl hm hc hn hx hr => exact .inr ⟨_, _, _, _, rfl, hn, hl⟩
theorem rep_pt {F : Nat → Prop} {cts : List CT} {v : Value} {d : D} (h : Rep w F (.pt cts) v d) :
  ∃ g oo cur t fz, v = .pointer (some ⟨g, oo, none⟩) ∧ F g ∧ w.heap[g]? = some (.cells cur t fz) ∧ oo + cts.length ≤ cur.size ∧ d = .p d.ptd ∧ d.ptd.length = cts.length ∧
   ∀ j ct, cts[j]? = some ct → Rep w F ct (cur.getD (oo + j) undef) (d.ptd.getD j default) := by
 cases h with
 | pt hF hg hc hn hr => exact ⟨_, _, _, _, _, rfl, hF, hg, hc, rfl, hn, hr⟩
theorem getD_slice (cur : Array Value) (off n k : Nat) (h : k < n) : ((cur.toList.drop off).take n).getD k undef = cur.getD (off + k) undef := by
 simp [List.getD, h, Array.getD_eq_getD_getElem?]
theorem mul_lt_bound {i len m j : Nat} (hi : i < len) (hj : j ≤ m) : i * m + j ≤ len * m := by
 have : (i + 1) * m ≤ len * m := Nat.mul_le_mul_right m hi
 rw [Nat.add_mul] at this
 omega
theorem row_cells {r : Nat} {ety : TypeId} {cts : List CT} {content : X} {ver : Nat} {frz : Bool} (hR : ResOk K.Φ K.ρ w gh r (.row ety cts content ver frz)) {b len cap : Nat} (hv : gh.rv r = .slice (some ⟨b, 0, none⟩) len cap) {i0 : Int} (h0 : 0 ≤ i0) (hi0 : i0 < len) :
  ∃ cur e fz, w.heap[b]? = some (.cells cur e fz) ∧ len * cts.length ≤ cur.size ∧ (content.d K.Φ K.ρ).lst.length = len ∧
   ∀ i j ct, i < len → cts[j]? = some ct → Rep w gh.F ct (cur.getD (i * cts.length + j) undef) (((content.d K.Φ K.ρ).lst.getD i []).getD j default) := by
 obtain ⟨_, _, _, hR⟩ := hR
 cases frz with
 | true =>
  simp only [if_true] at hR
  rw [hv] at hR
  obtain ⟨cur, t, fz, hF, hg, hl, hm, hc, hd, hn, hx, hr⟩ := rep_sl hR h0 hi0
  refine ⟨cur, t, fz, hg, ?_, hn, fun i j ct hi hj => ?_⟩
  ·have := Nat.mul_le_mul_right cts.length hl; omega
  ·have := hr i j ct hi hj; simpa using this
 | false =>
  simp only [fe0, if_false] at hR
  obtain ⟨xs, vals, hd, hown, hrep⟩ := hR
  rw [hv] at hown
  rcases hown with ⟨_, _, q, h1⟩ | ⟨g, cap', cur, h1, hc0, hlen, hg, hl, hm, hs, ht⟩
  ·simp only [Value.slice.injEq] at h1
   omega
  ·simp only [Value.slice.injEq, si0, Addr.mk.injEq] at h1
   obtain ⟨⟨rfl, _⟩, rfl, rfl⟩ := h1
   refine ⟨cur, ety, (0, 0), hg, by rw [hs]; exact Nat.mul_le_mul_right _ hl, by rw [hd]; rfl, fun i j ct hi hj => ?_⟩
   have h2 := (hrep i hi).2 j ct hj
   rw [hd]
   have hjl : j < cts.length := (List.getElem?_eq_some_iff.1 hj).1
   have hlt := mul_lt_bound (j := j + 1) (m := cts.length) hi (by omega)
   have e : vals.getD (i * cts.length + j) undef = cur.getD (i * cts.length + j) undef := by
    rw [← ht, List.getD, List.getElem?_take, if_pos (by omega)]
    simp [Array.getD_eq_getD_getElem?]
   rw [e] at h2
   exact h2
theorem eff_load (h : Inv K σ gh a w) {t : TypeId} {x : Operand} (ho : o.op = .load t x) {G : X} (hG : (G.d K.Φ K.ρ).bool = true) {eo : EO}
  (he : (effLoad P G t (strip G (σ.opd x))).run σ.res = some eo) : EffOk K σ P o a w eo := by
 have hx := strip_rel hG (h.opd x)
 unfold effLoad at he
 split at he
 case h_2 => exact (RM.run_fail he).elim
 rename_i n ag hs ha
 split at he
 case h_1 r off e =>
  rw [e] at hx
  obtain ⟨b, hβ, hv⟩ := hx
  obtain ⟨R, hR, he⟩ := RM.run_res he
  split at he
  ·rename_i ety cells frz hk
   split at he
   ·rename_i hc
    simp only [Bool.and_eq_true] at hc
    have hon : R.on K := entails_sound _ _ hc.1 hG
    have hok := h.res r R hR hon
    rw [hk] at hok
    obtain ⟨b', cur, hb', hg, hrel, _⟩ := hok
    obtain rfl : b' = b := Option.some.inj (hb'.symm.trans hβ)
    obtain ⟨s, hs', rfl⟩ := RM.run_val he
    have hl : off + n ≤ cur.size := by have := relS_length hrel; have := Nat.le_of_ble_eq_true hc.2; simp at *; omega
    exact load_core h ho hs ha hv hg hl (relS_take n (relS_drop off hrel)) hs'
   ·exact (RM.run_fail he).elim
  ·exact (RM.run_fail he).elim
 case h_2 ee cts s i off e =>
  rw [e] at hx
  obtain ⟨g, oo, len, cap, hRep, hi0, hi1, hv⟩ := hx
  obtain ⟨cur, t', fz, hF, hg, hl, hm, hc, hd, hn, hx', hr⟩ := rep_sl hRep hi0 hi1
  split at he
  ·rename_i hle
   have hle := Nat.le_of_ble_eq_true hle
   obtain ⟨s', hs', rfl⟩ := RM.run_val he
   have hlt : (i.d K.Φ K.ρ).int.toNat < len := by omega
   have hb := mul_lt_bound (j := off + n) (m := cts.length) hlt hle
   have hb2 := Nat.mul_le_mul_right cts.length hl
   refine load_core h ho hs ha hv hg (by omega) (relS_dataCells (F := gh.F) (by simp; omega) rfl fun k hk => ?_) hs'
   rw [getD_slice _ _ _ _ hk]
   have := hr _ (off + k) _ hlt (ct_at (by omega))
   simpa [X.d, Nat.add_assoc] using this
  ·exact (RM.run_fail he).elim
 case h_3 cts p e =>
  rw [e] at hx
  obtain ⟨g, oo, cur, t', fz, hv, hF, hg, hc, hd, hn, hr⟩ := rep_pt hx
  split at he
  ·rename_i hle
   have hle := Nat.le_of_ble_eq_true hle
   obtain ⟨s', hs', rfl⟩ := RM.run_val he
   refine load_core h ho hs ha hv hg (by omega) (relS_dataCells (F := gh.F) (by simp; omega) rfl fun k hk => ?_) hs'
   rw [getD_slice _ _ _ _ hk]
   have := hr (0 + k) _ (ct_at (by omega))
   simpa [X.d] using this
  ·exact (RM.run_fail he).elim
 case h_4 cts p off e =>
  rw [e] at hx
  obtain ⟨g, oo, hRep, hv⟩ := hx
  obtain ⟨g', oo', cur, t', fz, hv', hF, hg, hc, hd, hn, hr⟩ := rep_pt hRep
  simp only [Value.pointer.injEq, si0, Addr.mk.injEq] at hv'
  obtain ⟨rfl, rfl, _⟩ := hv'
  split at he
  ·rename_i hle
   have hle := Nat.le_of_ble_eq_true hle
   obtain ⟨s', hs', rfl⟩ := RM.run_val he
   refine load_core h ho hs ha hv hg (by omega) (relS_dataCells (F := gh.F) (by simp; omega) rfl fun k hk => ?_) hs'
   rw [getD_slice _ _ _ _ hk]
   have := hr (off + k) _ (ct_at (by omega))
   simpa [X.d, Nat.add_assoc] using this
  ·exact (RM.run_fail he).elim
 case h_5 r ver m i off e =>
  rw [e] at hx
  obtain ⟨_, h1, h2, h3⟩ := hx
  obtain ⟨R, hR, he⟩ := RM.run_res he
  split at he
  ·rename_i ety cts content ver' frz hk
   split at he
   ·rename_i hc
    simp only [Bool.and_eq_true, beq_iff_eq] at hc
    obtain ⟨⟨⟨hc1, rfl⟩, hm⟩, hle⟩ := hc
    have hle := Nat.le_of_ble_eq_true hle
    have hon : R.on K := entails_sound _ _ hc1 hG
    have hok := h.res r R hR hon
    rw [hk] at hok
    obtain ⟨b, len, cap, hrv, hi0, hi1, hv⟩ := h3 hok.1
    obtain ⟨cur, e', fz, hg, hsz, hn, hr⟩ := row_cells hok hrv hi0 hi1
    obtain ⟨s', hs', rfl⟩ := RM.run_val he
    have hlt : (i.d K.Φ K.ρ).int.toNat < len := by omega
    have hb := mul_lt_bound (j := off + n) (m := cts.length) hlt hle
    subst hm
    refine load_core h ho hs ha hv hg (by omega) (relS_dataCells (F := gh.F) (by simp; omega) rfl fun k hk => ?_) hs'
    rw [getD_slice _ _ _ _ hk]
    have := hr _ (off + k) _ hlt (ct_at (by omega))
    simpa [X.d, Nat.add_assoc] using this
   ·exact (RM.run_fail he).elim
  ·exact (RM.run_fail he).elim
 case h_6 r base m i e =>
  rw [e] at hx
  obtain ⟨b, hβ, hi0, hi1, hv⟩ := hx
  obtain ⟨R, hR, he2⟩ := RM.run_res he
  clear he
  revert he2
  intro he
  split at he
  ·rename_i ety cells frz hk
   split at he
   ·rename_i ct e1 rest hcells
    split at he
    ·rename_i xs hxs
     split at he
     ·rename_i hc
      simp only [Bool.and_eq_true, beq_iff_eq, Bool.not_eq_eq_eq_not, Bool.not_true] at hc
      obtain ⟨⟨⟨hc1, rfl⟩, rfl⟩, hlen⟩ := hc
      have hon : R.on K := entails_sound _ _ hc1 hG
      have hok := h.res r R hR hon
      rw [hk] at hok
      obtain ⟨b', cur, hb', hg, hrel, _⟩ := hok
      obtain rfl : b' = b := Option.some.inj (hb'.symm.trans hβ)
      have he := RM.run_done he
      subst he
      have hrel2 := relS_take m (relS_drop base hrel)
      rw [hcells] at hrel2
      have key : ∀ (l : List SC) (vs : List Value) (ys : List X) (m j : Nat), relS K.Φ K.ρ w gh l vs → cellsData (List.replicate m ct) l = some ys → j < m → ∃ u, vs[j]? = some u ∧ Rep w gh.F ct u (((consX ys).ds K.Φ K.ρ).getD j default) := by
       intro l
       induction l with
       | nil =>
        intro vs ys m j _ hc hj
        cases m with
        | zero => omega
        | succ m => simp [List.replicate_succ, cellsData] at hc
       | cons c l ih =>
        intro vs ys m j hrr hc hj
        cases vs with
        | nil => exact hrr.elim
        | cons v vs =>
         cases m with
         | zero => omega
         | succ m =>
          rw [List.replicate_succ] at hc
          unfold cellsData at hc
          split at hc
          ·rename_i hh; cases hh
          ·rename_i ct' cts' ct2 e2 cs2 hh1 hh2
           simp only [List.cons.injEq] at hh1 hh2
           obtain ⟨rfl, rfl⟩ := hh1
           obtain ⟨rfl, rfl⟩ := hh2
           split at hc
           ·rename_i hct
            have := CT.beq_eq _ _ hct
            subst this
            cases hcd : cellsData (List.replicate m ct2) l with
            | none => simp [hcd] at hc
            | some zs =>
             simp only [hcd, Option.map_some, si0] at hc
             subst hc
             cases j with
             | zero => exact ⟨v, rfl, by simp only [consX, X.ds, gz0]; exact hrr.1⟩
             | succ j =>
              obtain ⟨u, hu, hru⟩ := ih vs zs m j hrr.2 hcd (by omega)
              exact ⟨u, by simpa using hu, by simpa [consX, X.ds] using hru⟩
           ·cases hc
          ·rename_i e3 ct3 cts3 cs3 hh1 hh2
           simp only [List.cons.injEq] at hh1 hh2
           obtain ⟨rfl, rfl⟩ := hh1
           obtain ⟨rfl, rfl⟩ := hh2
           cases hcd : cellsData (List.replicate m (.sl e3 ct3)) l with
           | none => simp [hcd] at hc
           | some zs =>
            simp only [hcd, Option.map_some, si0] at hc
            subst hc
            cases j with
            | zero =>
             obtain ⟨hv0, _⟩ := hrr.1
             subst hv0
             exact ⟨_, rfl, by simpa [consX, X.ds, X.d] using Rep.nil⟩
            | succ j =>
             obtain ⟨u, hu, hru⟩ := ih vs zs m j hrr.2 hcd (by omega)
             exact ⟨u, by simpa using hu, by simpa [consX, X.ds] using hru⟩
          ·cases hc
      have hj : (i.d K.Φ K.ρ).int.toNat < m := by omega
      obtain ⟨u, hu, hru⟩ := key _ _ _ m _ hrel2 hxs hj
      rw [List.getElem?_take, if_pos hj, List.getElem?_drop] at hu
      refine EffOk.pure h (v := u) ?_ (by simpa [SV.rel, SC.rel, X.d] using hru)
      have hu' : cur[base + (i.d K.Φ K.ρ).int.toNat]? = some u := by simpa using hu
      have hlt2 : base + (i.d K.Φ K.ρ).int.toNat < cur.size := (Array.getElem?_eq_some_iff.1 hu').1
      have := run_loadVar_cells (P := P) hs ha hg (off := base + (i.d K.Φ K.ρ).int.toNat) (by omega) (fun _ => rfl)
      simp only [fe0, if_false] at this
      simp only [execOp, ho, hv, Instr.loadAt, Instr.sureAddr, Sem.run_bind, Sem.run_pure, Result.andThen_ok, this]
      congr 2
      rw [List.take_one]
      simp [List.head?_drop, hu']
     ·exact (RM.run_fail he).elim
    ·exact (RM.run_fail he).elim
   ·exact (RM.run_fail he).elim
  ·exact (RM.run_fail he).elim
 case h_7 cts p base m k i e =>
  rw [e] at hx
  obtain ⟨g, oo, hRep, hi0, hi1, hv⟩ := hx
  obtain ⟨g', oo', cur, t', fz, hv', hF, hg, hc, hd, hn, hr⟩ := rep_pt hRep
  simp only [Value.pointer.injEq, si0, Addr.mk.injEq] at hv'
  obtain ⟨rfl, rfl, _⟩ := hv'
  split at he
  ·rename_i ct rest hcts
   split at he
   ·rename_i hc2
    simp only [Bool.and_eq_true, beq_iff_eq, Bool.not_eq_eq_eq_not, Bool.not_true] at hc2
    obtain ⟨⟨⟨⟨rfl, rfl⟩, rfl⟩, hall⟩, hle⟩ := hc2
    have hle := Nat.le_of_ble_eq_true hle
    have he := RM.run_done he
    subst he
    have hj : (i.d K.Φ K.ρ).int.toNat < m := by omega
    have hct : cts[base + (i.d K.Φ K.ρ).int.toNat]? = some ct := by
     have h1 : ((cts.drop base).take m)[(i.d K.Φ K.ρ).int.toNat]? = cts[base + (i.d K.Φ K.ρ).int.toNat]? := by
      rw [List.getElem?_take, if_pos hj, List.getElem?_drop]
     rw [← h1, hcts]
     have h2 : (i.d K.Φ K.ρ).int.toNat < (ct :: rest).length := by
      rw [← hcts, List.length_take, List.length_drop]; omega
     cases hq : (i.d K.Φ K.ρ).int.toNat with
     | zero => rfl
     | succ q =>
      rw [hq] at h2
      have h3 : q < rest.length := by simpa using h2
      rw [List.getElem?_cons_succ, List.getElem?_eq_getElem h3]
      have := List.all_eq_true.1 hall rest[q] (List.getElem_mem h3)
      rw [← CT.beq_eq _ _ this]
    have hru := hr (base + (i.d K.Φ K.ρ).int.toNat) ct hct
    have hds : ∀ (l : List Nat) (j : Nat), j < l.length → (((consX (l.map fun j => X.psel (base + j) p)).ds K.Φ K.ρ).getD j default) = (X.psel (base + l.getD j 0) p).d K.Φ K.ρ := by
     intro l
     induction l with
     | nil => intro j h; simp at h
     | cons z l ih =>
      intro j h
      cases j with
      | zero => simp [consX, X.ds]
      | succ j => simpa [consX, X.ds] using ih j (by simpa using h)
    have hds := hds (List.range m) (i.d K.Φ K.ρ).int.toNat (by simpa using hj)
    have e0 : (List.range m).getD (i.d K.Φ K.ρ).int.toNat 0 = (i.d K.Φ K.ρ).int.toNat := by simp [List.getD, hj]
    rw [e0] at hds
    rw [Nat.mul_one] at hv
    have hlt2 : oo + (base + (i.d K.Φ K.ρ).int.toNat) < cur.size := by omega
    refine EffOk.pure h (v := cur.getD (oo + (base + (i.d K.Φ K.ρ).int.toNat)) undef) ?_ ?_
    ·have := run_loadVar_cells (P := P) hs ha hg (off := oo + (base + (i.d K.Φ K.ρ).int.toNat)) (by omega) (fun _ => rfl)
     simp only [fe0, if_false] at this
     simp only [execOp, ho, hv, Instr.loadAt, Instr.sureAddr, Sem.run_bind, Sem.run_pure, Result.andThen_ok, this]
     congr 2
     rw [List.take_one]
     simp [List.head?_drop, hlt2]
    ·change Rep w gh.F ct _ ((X.nth _ i).d K.Φ K.ρ)
     have e1 : (X.nth (consX ((List.range m).map fun j => X.psel (base + j) p)) i).d K.Φ K.ρ = (X.psel (base + (i.d K.Φ K.ρ).int.toNat) p).d K.Φ K.ρ := hds
     rw [e1]
     simpa [X.d, Nat.add_assoc] using hru
   ·exact (RM.run_fail he).elim
  ·exact (RM.run_fail he).elim
 case h_8 => exact (RM.run_fail he).elim
theorem addOff_rel {k : Nat} {s s' : SV} (h : addOff k s = some s') {v : Value} (hs : SV.rel K.Φ K.ρ w gh s v) :
  ∃ q, v = .pointer (some q) ∧ SV.rel K.Φ K.ρ w gh s' (.pointer (some (q.add k))) := by
 unfold addOff at h
 split at h <;> simp only [si0, reduceCtorEq] at h <;> subst h
 ·obtain ⟨b, h1, rfl⟩ := hs
  exact ⟨_, rfl, b, h1, by rw [addr_add]⟩
 ·obtain ⟨g, oo, len, cap, h1, h2, h3, rfl⟩ := hs
  exact ⟨_, rfl, g, oo, len, cap, h1, h2, h3, by rw [addr_add, Nat.add_assoc]⟩
 ·obtain ⟨g, oo, cur, t', fz, hv, hF, hg, hc, hd, hn, hr⟩ := rep_pt hs
  subst hv
  exact ⟨_, rfl, g, oo, hs, by rw [addr_add]⟩
 ·obtain ⟨g, oo, h1, rfl⟩ := hs
  exact ⟨_, rfl, g, oo, h1, by rw [addr_add, Nat.add_assoc]⟩
 ·obtain ⟨⟨q, rfl⟩, h1, h2, h3⟩ := hs
  refine ⟨q, rfl, ⟨_, rfl⟩, h1, h2, fun e => ?_⟩
  obtain ⟨b, len, cap, hrv, hi0, hi1, hv⟩ := h3 e
  simp only [Value.pointer.injEq, si0] at hv
  subst hv
  exact ⟨b, len, cap, hrv, hi0, hi1, by rw [addr_add, Nat.add_assoc]⟩
theorem eff_fieldAddr (h : Inv K σ gh a w) {t : TypeId} {x : Operand} {f : Nat} (ho : o.op = .fieldAddr t x f) {G : X} (hG : (G.d K.Φ K.ρ).bool = true) {eo : EO}
  (he : (effFieldAddr P t (strip G (σ.opd x)) f).run σ.res = some eo) : EffOk K σ P o a w eo := by
 have hx := strip_rel hG (h.opd x)
 unfold effFieldAddr at he
 split at he
 ·rename_i fs hu
  split at he
  ·rename_i fd hf
   split at he
   ·rename_i n hs
    obtain ⟨s, hs', rfl⟩ := RM.run_val he
    obtain ⟨q, hq, hrel⟩ := addOff_rel hs' hx
    refine EffOk.pure h ?_ hrel
    have := run_sizeT (P := P) hs w
    simp [execOp, ho, hq, Instr.fieldAt, run_underlying hu, hf, Instr.sureAddr, fieldPlace, this]
   ·exact (RM.run_fail he).elim
  ·exact (RM.run_fail he).elim
 ·exact (RM.run_fail he).elim
theorem inRange_spec {i n : X} {pre : FuncId → List D → Prop} (h : ∀ nd ∈ inRange i n, nd.holds pre K.Φ K.ρ) : 0 ≤ (i.d K.Φ K.ρ).int ∧ (i.d K.Φ K.ρ).int < (n.d K.Φ K.ρ).int := by
 have h1 := h (.c (leX (.n 0) i)) (by simp [inRange])
 have h2 := h (.c (ltX i n)) (by simp [inRange])
 exact ⟨of_decide_eq_true (p := (0 : Int) ≤ (i.d K.Φ K.ρ).int) h1, of_decide_eq_true (p := (i.d K.Φ K.ρ).int < (n.d K.Φ K.ρ).int) h2⟩
theorem sizeEq_spec {t : TypeId} {n : Nat} (h : sizeEq P t n = true) : sizeT P t = some n := by
 unfold sizeEq at h
 split at h
 ·rename_i m hm; rw [hm]; simpa using h
 ·cases h
theorem wrap_sm {n : Int} (h0 : 0 ≤ n) (h1 : n < 1048577) : IntKind.i64.wrap n = n := by
 simp [IntKind.wrap, IntKind.bits, IntKind.signed]
 omega
theorem row_col {i j : Int} {n m : Nat} (hi0 : 0 ≤ i) (hi1 : i < m) (hj0 : 0 ≤ j) (hj1 : j < n) (hb : m * n ≤ 1048576) :
  IntKind.i64.wrap (IntKind.i64.wrap (i * n) + j) = i * n + j ∧ 0 ≤ i * n + j ∧ i * n + j < (m * n : Nat) ∧ (i * n + j).toNat = i.toNat * n + j.toNat := by
 obtain ⟨a, rfl⟩ := Int.eq_ofNat_of_zero_le hi0
 obtain ⟨b, rfl⟩ := Int.eq_ofNat_of_zero_le hj0
 have ha : a < m := by omega
 have hb' : b < n := by omega
 have h1 : a * n + b < m * n := by
  have h2 : (a + 1) * n ≤ m * n := Nat.mul_le_mul_right n ha
  rw [Nat.add_mul, Nat.one_mul] at h2
  omega
 have e : ((a : Int) * (n : Int)) = ((a * n : Nat) : Int) := by simp
 rw [e]
 have w1 : IntKind.i64.wrap ((a * n : Nat) : Int) = ((a * n : Nat) : Int) := wrap_sm (by omega) (by omega)
 rw [w1]
 refine ⟨wrap_sm (by omega) (by omega), by omega, by omega, ?_⟩
 simp only [tn0]
 omega
theorem eff_indexAddr (h : Inv K σ gh a w) {t : TypeId} {x i : Operand} (ho : o.op = .indexAddr t x i) {G : X} (hG : (G.d K.Φ K.ρ).bool = true) {eo : EO} {pre : FuncId → List D → Prop}
  (he : (effIndexAddr P G t (strip G (σ.opd x)) (strip G (σ.opd i))).run σ.res = some eo) (hn : ∀ n ∈ eo.nd, n.holds pre K.Φ K.ρ) : EffOk K σ P o a w eo := by
 have hx := strip_rel hG (h.opd x)
 have hi := strip_rel hG (h.opd i)
 unfold effIndexAddr at he
 split at he
 case h_2 => exact (RM.run_fail he).elim
 rename_i ki ie ei
 rw [ei] at hi
 obtain ⟨hiv, hid, hib⟩ := rep_int hi
 split at he
 ·rename_i el hu
  split at he
  ·rename_i e cts s ex
   rw [ex] at hx
   split at he
   ·rename_i hsz
    have hsz := sizeEq_spec hsz
    have he := RM.run_done he
    subst he
    obtain ⟨h0, h1⟩ := inRange_spec hn
    have h1 : (ie.d K.Φ K.ρ).int < (s.d K.Φ K.ρ).lst.length := h1
    rcases rep_sl_any hx with ⟨_, hd⟩ | ⟨g, oo, len, cap, hv, hl, _⟩
    ·rw [hd] at h1; simp at h1; omega
    ·rw [hl] at h1
     have hx' := hx
     rw [hv] at hx'
     refine EffOk.pure h (v := .pointer (some ⟨g, oo + (ie.d K.Φ K.ρ).int.toNat * cts.length + 0, none⟩)) ?_ ⟨g, oo, len, cap, hx', h0, h1, rfl⟩
     have := run_sizeT (P := P) hsz w
     simp [execOp, ho, hv, hiv, Instr.indexAt, asIntOf, run_underlying hu, h0, h1, this, addr_add]
   ·exact (RM.run_fail he).elim
  ·rename_i r ver ex
   rw [ex] at hx
   obtain ⟨_, h1', h2', h3'⟩ := hx
   obtain ⟨R, hR, he2⟩ := RM.run_res he
   split at he2
   ·rename_i ety cts content ver' frz hk
    split at he2
    ·rename_i hc
     simp only [Bool.and_eq_true, beq_iff_eq] at hc
     obtain ⟨⟨hc1, rfl⟩, hsz⟩ := hc
     have hsz := sizeEq_spec hsz
     have he := RM.run_done he2
     subst he
     have hon : R.on K := entails_sound _ _ hc1 hG
     have hok := h.res r R hR hon
     rw [hk] at hok
     have hver := hok.1
     have hv := h3' hver
     obtain ⟨h0, h1⟩ := inRange_spec hn
     have h1 : (ie.d K.Φ K.ρ).int < (content.d K.Φ K.ρ).lst.length := h1
     have hrow : ∃ b len cap, gh.rv r = .slice (some ⟨b, 0, none⟩) len cap ∧ (content.d K.Φ K.ρ).lst.length = len := by
      obtain ⟨_, _, hz, hok⟩ := hok
      cases frz with
      | true =>
       simp only [if_true] at hok
       rcases rep_sl_any hok with ⟨_, hd⟩ | ⟨g, oo, len, cap, hrv, hl, hlc⟩
       ·rw [hd] at h1; simp at h1; omega
       ·have h1' : (ie.d K.Φ K.ρ).int < (len : Int) := by rw [← hl]; exact h1
        obtain ⟨b, hb⟩ := hz _ _ _ hrv (by omega)
        rw [hb] at hrv
        exact ⟨b, len, cap, hrv, hl⟩
      | false =>
       simp only [fe0, if_false] at hok
       obtain ⟨xs, vals, hd, hown, _⟩ := hok
       rcases hown with ⟨_, h0', _⟩ | ⟨g, cap, cur, hrv, _⟩
       ·rw [hd] at h1; simp [h0'] at h1; omega
       ·exact ⟨g, _, cap, hrv, by rw [hd]; rfl⟩
     obtain ⟨b, len, cap, hrv, hlen⟩ := hrow
     rw [hlen] at h1
     refine EffOk.pure h (v := .pointer (some ⟨b, (ie.d K.Φ K.ρ).int.toNat * cts.length + 0, none⟩)) ?_ ⟨⟨_, rfl⟩, h1', h2', fun _ => ⟨b, len, cap, hrv, h0, h1, rfl⟩⟩
     have := run_sizeT (P := P) hsz w
     rw [hrv] at hv
     simp [execOp, ho, hv, hiv, Instr.indexAt, asIntOf, run_underlying hu, h0, h1, this, addr_add]
    ·exact (RM.run_fail he2).elim
   ·exact (RM.run_fail he2).elim
  ·exact (RM.run_fail he).elim
 ·rename_i n el hu
  split at he
  ·rename_i m hm
   have hm' := run_sizeT (P := P) hm w
   split at he
   ·rename_i r off ex
    rw [ex] at hx
    obtain ⟨b, hβ, hv⟩ := hx
    split at he
    ·rename_i z
     split at he
     ·rename_i hz
      simp only [decide_eq_true_eq] at hz
      have he := RM.run_done he
      subst he
      simp only [X.d, D.int_i] at hiv
      refine EffOk.pure h (v := .pointer (some ⟨b, off + z.toNat * (m + 1), none⟩)) ?_ ⟨b, hβ, rfl⟩
      simp [execOp, ho, hv, hiv, Instr.indexAt, Instr.sureAddr, asIntOf, run_underlying hu, hz.1, hz.2, hm', addr_add]
     ·exact (RM.run_fail he).elim
    ·split at he
     ·rename_i hm0
      simp only [beq_iff_eq] at hm0
      subst hm0
      have he := RM.run_done he
      subst he
      obtain ⟨h0, h1⟩ := inRange_spec hn
      have h1 : (ie.d K.Φ K.ρ).int < n := h1
      refine EffOk.pure h (v := .pointer (some ⟨b, off + (ie.d K.Φ K.ρ).int.toNat, none⟩)) ?_ ⟨b, hβ, h0, h1, rfl⟩
      simp [execOp, ho, hv, hiv, Instr.indexAt, Instr.sureAddr, asIntOf, run_underlying hu, h0, h1, hm', addr_add]
     ·have he := RM.run_done he
      subst he
      obtain ⟨h0, h1⟩ := inRange_spec hn
      have h1 : (ie.d K.Φ K.ρ).int < n := h1
      refine EffOk.pure h (v := .pointer (some ⟨b, off + (ie.d K.Φ K.ρ).int.toNat * (m + 1), none⟩)) ?_ ⟨b, hβ, h0, h1, rfl⟩
      simp [execOp, ho, hv, hiv, Instr.indexAt, Instr.sureAddr, asIntOf, run_underlying hu, h0, h1, hm', addr_add]
   ·rename_i r base n' k i' ex
    rw [ex] at hx
    obtain ⟨b, hβ, hj0, hj1, hv⟩ := hx
    split at he
    ·rename_i hc
     simp only [Bool.and_eq_true, beq_iff_eq] at hc
     obtain ⟨⟨rfl, rfl⟩, hle⟩ := hc
     have hle := Nat.le_of_ble_eq_true hle
     have he := RM.run_done he
     subst he
     obtain ⟨h0, h1⟩ := inRange_spec hn
     have h1 : (ie.d K.Φ K.ρ).int < k := h1
     obtain ⟨w1, w2, w3, w4⟩ := row_col hj0 hj1 h0 h1 hle
     have e1 : ((X.bin (.add .i64) (.bin (.mul .i64) i' (.n k)) ie).d K.Φ K.ρ).int = (i'.d K.Φ K.ρ).int * k + (ie.d K.Φ K.ρ).int := w1
     refine EffOk.pure h (v := .pointer (some ⟨b, base + ((i'.d K.Φ K.ρ).int.toNat * k + (ie.d K.Φ K.ρ).int.toNat), none⟩)) ?_ ⟨b, hβ, by rw [e1]; exact w2, by rw [e1]; exact w3, by rw [e1, w4]⟩
     simp [execOp, ho, hv, hiv, Instr.indexAt, Instr.sureAddr, asIntOf, run_underlying hu, h0, h1, hm', addr_add, Nat.add_assoc]
    ·exact (RM.run_fail he).elim
   ·rename_i cts p off ex
    rw [ex] at hx
    obtain ⟨g, oo, hRep, hv⟩ := hx
    split at he
    ·rename_i z
     split at he
     ·rename_i hz
      simp only [decide_eq_true_eq] at hz
      have he := RM.run_done he
      subst he
      simp only [X.d, D.int_i] at hiv
      refine EffOk.pure h (v := .pointer (some ⟨g, oo + (off + z.toNat * (m + 1)), none⟩)) ?_ ⟨g, oo, hRep, rfl⟩
      simp [execOp, ho, hv, hiv, Instr.indexAt, Instr.sureAddr, asIntOf, run_underlying hu, hz.1, hz.2, hm', addr_add, Nat.add_assoc]
     ·exact (RM.run_fail he).elim
    ·have he := RM.run_done he
     subst he
     obtain ⟨h0, h1⟩ := inRange_spec hn
     have h1 : (ie.d K.Φ K.ρ).int < n := h1
     refine EffOk.pure h (v := .pointer (some ⟨g, oo + (off + (ie.d K.Φ K.ρ).int.toNat * (m + 1)), none⟩)) ?_ ⟨g, oo, hRep, h0, h1, rfl⟩
     simp [execOp, ho, hv, hiv, Instr.indexAt, Instr.sureAddr, asIntOf, run_underlying hu, h0, h1, hm', addr_add, Nat.add_assoc]
   ·rename_i cts p base n' k i' ex
    rw [ex] at hx
    obtain ⟨g, oo, hRep, hj0, hj1, hv⟩ := hx
    split at he
    ·rename_i hc
     simp only [Bool.and_eq_true, beq_iff_eq] at hc
     obtain ⟨⟨rfl, rfl⟩, hle⟩ := hc
     have hle := Nat.le_of_ble_eq_true hle
     have he := RM.run_done he
     subst he
     obtain ⟨h0, h1⟩ := inRange_spec hn
     have h1 : (ie.d K.Φ K.ρ).int < k := h1
     obtain ⟨w1, w2, w3, w4⟩ := row_col hj0 hj1 h0 h1 hle
     have e1 : ((X.bin (.add .i64) (.bin (.mul .i64) i' (.n k)) ie).d K.Φ K.ρ).int = (i'.d K.Φ K.ρ).int * k + (ie.d K.Φ K.ρ).int := w1
     refine EffOk.pure h (v := .pointer (some ⟨g, oo + (base + ((i'.d K.Φ K.ρ).int.toNat * k + (ie.d K.Φ K.ρ).int.toNat)), none⟩)) ?_ ⟨g, oo, hRep, by rw [e1]; exact w2, by rw [e1]; exact w3, by rw [e1, w4, Nat.mul_one]⟩
     simp [execOp, ho, hv, hiv, Instr.indexAt, Instr.sureAddr, asIntOf, run_underlying hu, h0, h1, hm', addr_add, Nat.add_assoc]
    ·exact (RM.run_fail he).elim
   ·rename_i e cts s k off ex
    rw [ex] at hx
    obtain ⟨g, oo, len, cap, hRep, hk0, hk1, hv⟩ := hx
    split at he
    ·rename_i z
     split at he
     ·rename_i hz
      simp only [decide_eq_true_eq] at hz
      have he := RM.run_done he
      subst he
      simp only [X.d, D.int_i] at hiv
      refine EffOk.pure h (v := .pointer (some ⟨g, oo + (k.d K.Φ K.ρ).int.toNat * cts.length + (off + z.toNat * (m + 1)), none⟩)) ?_ ⟨g, oo, len, cap, hRep, hk0, hk1, rfl⟩
      simp [execOp, ho, hv, hiv, Instr.indexAt, Instr.sureAddr, asIntOf, run_underlying hu, hz.1, hz.2, hm', addr_add, Nat.add_assoc]
     ·exact (RM.run_fail he).elim
    ·exact (RM.run_fail he).elim
   ·exact (RM.run_fail he).elim
  ·exact (RM.run_fail he).elim
 ·exact (RM.run_fail he).elim
theorem eff_index (h : Inv K σ gh a w) {t : TypeId} {x i : Operand} (ho : o.op = .index t x i) {G : X} (hG : (G.d K.Φ K.ρ).bool = true) {eo : EO} {pre : FuncId → List D → Prop}
  (he : (effIndex P t (strip G (σ.opd x)) (strip G (σ.opd i))).run σ.res = some eo) (hn : ∀ n ∈ eo.nd, n.holds pre K.Φ K.ρ) : EffOk K σ P o a w eo := by
 have hx := strip_rel hG (h.opd x)
 have hi := strip_rel hG (h.opd i)
 unfold effIndex at he
 split at he
 case h_2 => exact (RM.run_fail he).elim
 rename_i ki ie ei
 rw [ei] at hi
 obtain ⟨hiv, hid, hib⟩ := rep_int hi
 split at he
 ·rename_i e hu ex
  rw [ex] at hx
  obtain ⟨hv, _, hsz⟩ := rep_str hx
  have he := RM.run_done he
  subst he
  obtain ⟨h0, h1⟩ := inRange_spec hn
  have h1 : (ie.d K.Φ K.ρ).int < (e.d K.Φ K.ρ).str.size := h1
  have hlt : (ie.d K.Φ K.ρ).int.toNat < (e.d K.Φ K.ρ).str.size := by omega
  refine EffOk.pure h (v := .int .u8 ((e.d K.Φ K.ρ).str[(ie.d K.Φ K.ρ).int.toNat]).toNat) ?_ (rep_mk_int ?_ ?_)
  ·simp [execOp, ho, hv, hiv, Instr.index, asIntOf, run_underlying hu, h0, hlt]
  ·simp [hlt]
  ·have := ((e.d K.Φ K.ρ).str[(ie.d K.Φ K.ρ).int.toNat]).toNat_lt
   simp [IntKind.min, IntKind.max, IntKind.signed, IntKind.bits]
   omega
 ·rename_i n el cs hu ex
  rw [ex] at hx
  obtain ⟨us, hv, hr⟩ := hx
  split at he
  ·rename_i z m ag hm hag
   split at he
   ·rename_i hc
    simp only [Bool.and_eq_true, decide_eq_true_eq] at hc
    obtain ⟨hz, hle⟩ := hc
    have hle := Nat.le_of_ble_eq_true hle
    obtain ⟨s, hs', rfl⟩ := RM.run_val he
    have hlen := relS_length hr
    have hrr := relS_take m (relS_drop (z.toNat * m) hr)
    have h1 : ag = false → m = 1 := by
     rintro rfl
     have e1 := mkVal_one hs'
     rw [List.length_take, List.length_drop] at e1
     omega
    simp only [X.d, D.int_i] at hiv
    have hp := run_part (P := P) hm hag us (z.toNat * m) (by simp at hlen; omega) h1 w
    have hsz := run_sizeT (P := P) hm w
    refine EffOk.pure h ?_ (rel_mkVal hs' hrr)
    simp [execOp, ho, hv, hiv, Instr.index, asIntOf, run_underlying hu, hz.1, hz.2, hsz, hp]
   ·exact (RM.run_fail he).elim
  ·exact (RM.run_fail he).elim
 ·exact (RM.run_fail he).elim
end
end Go.RV
namespace Go.RV
open Go.RowKit
theorem ownsRow_block {w w' : World} {e : TypeId} {size : Nat} {v : Value} {n : Nat} {xs : List Value} (h : OwnR w e size v n xs)
  (hb : ∀ b, ownB v = some b → w'.heap[b]? = w.heap[b]?) : OwnR w' e size v n xs := by
 rcases h with h | ⟨g, cap, cur, hv, h0, h1, hh, r⟩
 ·exact .inl h
 ·refine .inr ⟨g, cap, cur, hv, h0, h1, ?_, r⟩
  obtain ⟨c, rfl⟩ : ∃ c, cap = c + 1 := ⟨cap - 1, by omega⟩
  rw [hb g (by rw [hv]; rfl)]; exact hh
section
variable {K : Ctx} {σ : St} {gh gh' : Gh} {a : Act} {w w' : World}
theorem ResOk.keep {Φ : FuncId → List D → List D} {ρ : List D} {r : Nat} {k : RK} (h : ResOk Φ ρ w gh r k) (hle : gh.le gh') (hβ : gh'.β r = gh.β r) (hrv : gh'.rv r = gh.rv r) (hvr : gh'.vr r = gh.vr r)
  (hF : ∀ b, gh.F b → w'.heap[b]? = w.heap[b]?) (hl : ∀ b, k.live gh r = some b → w'.heap[b]? = w.heap[b]?) : ResOk Φ ρ w' gh' r k := by
 cases k with
 | box ety cells frz =>
  obtain ⟨b, cur, h1, h2, h3, h4⟩ := h
  refine ⟨b, cur, by rw [hβ]; exact h1, ?_, relS_mono hle hF h3, fun hf => hle.F _ (h4 hf)⟩
  cases frz with
  | true => rw [hF b (h4 rfl)]; exact h2
  | false => rw [hl b h1]; exact h2
 | row ety cts content ver frz =>
  obtain ⟨h1, h2, h3, h4⟩ := h
  refine ⟨by rw [hvr]; exact h1, h2, by rw [hrv]; exact h3, ?_⟩
  cases frz with
  | true =>
   simp only [if_true] at h4 ⊢
   rw [hrv]
   exact h4.mono hle.F hF
  | false =>
   simp only [fe0, if_false] at h4 ⊢
   obtain ⟨xs, vals, e1, e2, e3⟩ := h4
   exact ⟨xs, vals, e1, by rw [hrv]; exact ownsRow_block e2 hl, e3.mono hle.F hF⟩
structure Step (K : Ctx) (σ : St) (gh gh' : Gh) (w w' : World) (res' : List (Option Res)) (T : Nat → Prop) : Prop where
 le : gh.le gh'
 os : w'.os = w.os
 tape : w'.tape = w.tape
 output : w'.output = w.output
 grow : w.heap.size ≤ w'.heap.size
 same : ∀ r, ¬ T r → res'[r]? = σ.res[r]? ∧ gh'.β r = gh.β r ∧ gh'.rv r = gh.rv r ∧ gh'.vr r = gh.vr r
 blk : ∀ b, b < w.heap.size → (∀ r x, T r → σ.has r x → x.on K → x.k.live gh r ≠ some b) → w'.heap[b]? = w.heap[b]?
 Flt : ∀ b, gh'.F b → b < w'.heap.size
 Fnew : ∀ b, gh'.F b → gh.F b ∨ (¬ K.Pr b ∧ ∀ r x, ¬ T r → σ.has r x → x.on K → x.k.live gh r ≠ some b)
 res : ∀ r x, T r → res'[r]? = some (some x) → x.on K → ResOk K.Φ K.ρ w' gh' r x.k
 own : ∀ r x b, T r → res'[r]? = some (some x) → x.on K → x.k.live gh' r = some b → ¬ K.Pr b ∧ ¬ gh'.F b ∧ b < w'.heap.size ∧ ∀ r2 x2, ¬ T r2 → σ.has r2 x2 → x2.on K → x2.k.live gh r2 ≠ some b
 inj : ∀ r x r' x' b, T r → T r' → res'[r]? = some (some x) → x.on K → res'[r']? = some (some x') → x'.on K → x.k.live gh' r = some b → x'.k.live gh' r' = some b → r = r'
 beta : ∀ r b, T r → gh'.β r = some b → ∃ x, res'[r]? = some (some x) ∧ x.on K
 vr0 : ∀ r, T r → 1 ≤ gh'.vr r → ∃ x, res'[r]? = some (some x) ∧ x.on K
theorem RK.live_same {r : Nat} (k : RK) (hβ : gh'.β r = gh.β r) (hrv : gh'.rv r = gh.rv r) : k.live gh' r = k.live gh r := by
 cases k with
 | box e c z => cases z <;> simp [RK.live, hβ]
 | row e c x v z => cases z <;> simp [RK.live, hrv]
theorem Inv.step {res' : List (Option Res)} {T : Nat → Prop} (h : Inv K σ gh a w) (s : Step K σ gh gh' w w' res' T) : Inv K ⟨σ.slots, res'⟩ gh' a w' := by
 have hFb : ∀ b, gh.F b → w'.heap[b]? = w.heap[b]? := fun b hb => s.blk b (h.Flt b hb) fun r x _ hx hon hl => (h.own r x b hx hon hl).2.1 hb
 have hPrb : ∀ b, K.Pr b → w'.heap[b]? = w.heap[b]? := fun b hb => s.blk b (Nat.lt_of_lt_of_le (h.prlt b hb) h.grow) fun r x _ hx hon hl => (h.own r x b hx hon hl).1 hb
 have old : ∀ r x, ¬ T r → (⟨σ.slots, res'⟩ : St).has r x → σ.has r x := fun r x hT hx => by unfold St.has at hx ⊢; rw [← (s.same r hT).1]; exact hx
 have lv : ∀ r (k : RK), ¬ T r → k.live gh' r = k.live gh r := fun r k hT => RK.live_same k (s.same r hT).2.1 (s.same r hT).2.2.1
 refine ⟨h.defers, h.size, fun n t ht => SV.rel_mono s.le hFb (h.slot n t ht), h.kept, s.os.trans h.os, s.tape.trans h.tape, s.output.trans h.output, Nat.le_trans h.grow s.grow,
  fun b hb => (hPrb b hb).trans (h.pr b hb), h.prlt, s.Flt, fun r b hb => ?_, fun r hr => ?_, fun r x hx hon => ?_, fun r x b hx hon hl => ?_, fun r x r' x' b hx hon hx' hon' hl hl' => ?_, h.le0.trans s.le, fun b hb => (s.Fnew b hb).elim (h.Fpr b) fun hn => .inr hn.1, h.tab.mono s.le.F hFb⟩
 ·by_cases hT : T r
  ·exact s.beta r b hT hb
  ·rw [(s.same r hT).2.1] at hb
   obtain ⟨x, hx, hon⟩ := h.beta r b hb
   exact ⟨x, by unfold St.has at hx ⊢; rw [(s.same r hT).1]; exact hx, hon⟩
 ·by_cases hT : T r
  ·exact s.vr0 r hT hr
  ·rw [(s.same r hT).2.2.2] at hr
   obtain ⟨x, hx, hon⟩ := h.vr0 r hr
   exact ⟨x, by unfold St.has at hx ⊢; rw [(s.same r hT).1]; exact hx, hon⟩
 ·by_cases hT : T r
  ·exact s.res r x hT hx hon
  ·obtain ⟨_, e1, e2, e3⟩ := s.same r hT
   have hx0 := old r x hT hx
   refine (h.res r x hx0 hon).keep s.le e1 e2 e3 hFb fun b hl => s.blk b (h.own r x b hx0 hon hl).2.2 fun r2 x2 hT2 hx2 hon2 hl2 => ?_
   have := h.inj r x r2 x2 b hx0 hon hx2 hon2 hl hl2
   subst this; exact hT hT2
 ·by_cases hT : T r
  ·obtain ⟨h1, h2, h3, _⟩ := s.own r x b hT hx hon hl
   exact ⟨h1, h2, h3⟩
  ·have hx0 := old r x hT hx
   rw [lv r _ hT] at hl
   obtain ⟨h1, h2, h3⟩ := h.own r x b hx0 hon hl
   refine ⟨h1, fun hF' => ?_, Nat.lt_of_lt_of_le h3 s.grow⟩
   rcases s.Fnew b hF' with hF | hF
   ·exact h2 hF
   ·exact hF.2 r x hT hx0 hon hl
 ·by_cases hT : T r
  ·by_cases hT' : T r'
   ·exact s.inj r x r' x' b hT hT' hx hon hx' hon' hl hl'
   ·rw [lv r' _ hT'] at hl'
    exact absurd hl' ((s.own r x b hT hx hon hl).2.2.2 r' x' hT' (old r' x' hT' hx') hon')
  ·by_cases hT' : T r'
   ·rw [lv r _ hT] at hl
    exact absurd hl ((s.own r' x' b hT' hx' hon' hl').2.2.2 r x hT (old r x hT hx) hon)
   ·rw [lv r _ hT] at hl
    rw [lv r' _ hT'] at hl'
    exact h.inj r x r' x' b (old r x hT hx) hon (old r' x' hT' hx') hon' hl hl'
end
end Go.RV
