/-
  RV, part 14: a state that matches the state at a loop's head; the state behind a loop.
-/
import Derived.Test.YthnilbkkihmpoaaRvOps7
namespace Go.RV
open Go.RowKit

section
variable {P : Program} {K : Ctx} {σ : St} {gh : Gh} {a : Act} {w : World} {sg : FuncId → Option Sig}

/-- what the head's list of resources leaves of what was open -/
def Gh.cut (gh : Gh) (hs : List (Option Res)) : Gh where
  β := fun r => if listed hs r then gh.β r else none
  rv := gh.rv
  vr := fun r => match hs.getD r none with
    | some ⟨_, .row ..⟩ => 1
    | _ => 0
  F := gh.F

def Binds (Φ : FuncId → List D → List D) (ρ ρ' : List D) (l : List (Nat × X)) : Prop := ∀ p ∈ l, ρ'.getD p.1 default = p.2.d Φ ρ

theorem Binds.left {Φ : FuncId → List D → List D} {ρ ρ' : List D} {l m : List (Nat × X)} (h : Binds Φ ρ ρ' (l ++ m)) : Binds Φ ρ ρ' l := fun p hp => h p (List.mem_append_left _ hp)
theorem Binds.right {Φ : FuncId → List D → List D} {ρ ρ' : List D} {l m : List (Nat × X)} (h : Binds Φ ρ ρ' (l ++ m)) : Binds Φ ρ ρ' m := fun p hp => h p (List.mem_append_right _ hp)

/-- the rows that are listed: their versions now, and 1 at the head -/
def RowsAt (hs rs : List (Option Res)) (gh : Gh) : Prop :=
  ∀ r, listed hs r = true → ∀ x, rs.getD r none = some x → ∀ ety cts c ver z, x.k = .row ety cts c ver z → gh.vr r = ver ∧ (gh.cut hs).vr r = 1

theorem matchSC_rel {hs rs : List (Option Res)} {ρ ρ' : List D} {Φ : FuncId → List D → List D} (hrows : RowsAt hs rs gh) : ∀ {s t : SC} {l : List (Nat × X)}, matchSC hs rs s t = some l → Binds Φ ρ ρ' l → ∀ {v : Value}, SC.rel Φ ρ w gh t v → SC.rel Φ ρ' w (gh.cut hs) s v := by
  intro s t l hm hb v hr
  unfold matchSC at hm
  split at hm
  · trivial
  · simp only [Option.some.injEq] at hm
    subst hm
    have := hb _ List.mem_cons_self
    obtain ⟨rfl, _⟩ := hr
    show Rep w gh.F _ _ _
    simp only [X.d] at this ⊢
    rw [this]
    exact .nil
  · skip
    split at hm
    · rename_i hc
      have := CT.beq_eq _ _ hc
      subst this
      simp only [Option.some.injEq] at hm
      subst hm
      have := hb _ List.mem_cons_self
      show Rep w gh.F _ _ _
      simp only [X.d] at this ⊢
      rw [this]
      exact hr
    · cases hm
  · split at hm
    · rename_i hc
      simp only [Bool.and_eq_true, beq_iff_eq] at hc
      obtain ⟨⟨rfl, rfl⟩, hl⟩ := hc
      obtain ⟨b, h1, h2⟩ := hr
      exact ⟨b, by simp only [Gh.cut, hl, if_true]; exact h1, h2⟩
    · cases hm
  · split at hm
    · rename_i hc
      simp only [Bool.and_eq_true, beq_iff_eq] at hc
      obtain ⟨⟨rfl, rfl⟩, hl⟩ := hc
      obtain ⟨vs, h1, h2, h3⟩ := hr
      refine ⟨vs, h1, h2, fun j c hc => ?_⟩
      obtain ⟨b, h4, h5⟩ := h3 j c hc
      have := List.all_eq_true.1 hl c (List.mem_of_getElem? hc)
      exact ⟨b, by simp only [Gh.cut, this, if_true]; exact h4, h5⟩
    · cases hm
  · split at hm
    · rename_i hc
      simp only [Bool.and_eq_true, beq_iff_eq] at hc
      obtain ⟨⟨rfl, rfl⟩, hl⟩ := hc
      split at hm
      · rename_i ety cts c ver' z hx
        split at hm
        · rename_i hv
          simp only [beq_iff_eq] at hv
          subst hv
          obtain ⟨h1, h2⟩ := hrows _ hl _ hx _ _ _ _ _ rfl
          obtain ⟨h0, h3, h4, h5⟩ := hr
          exact ⟨h0, Nat.le_refl _, by rw [h2]; exact Nat.le_refl _, fun _ => h5 h1⟩
        · cases hm
      · cases hm
    · cases hm
  · split at hm
    · rename_i hc
      simp only [Bool.and_eq_true, beq_iff_eq] at hc
      obtain ⟨⟨⟨⟨rfl, rfl⟩, rfl⟩, rfl⟩, hl⟩ := hc
      split at hm
      · rename_i ety cts c ver' z hx
        split at hm
        · rename_i hv
          simp only [beq_iff_eq] at hv
          subst hv
          simp only [Option.some.injEq] at hm
          subst hm
          have he := hb _ List.mem_cons_self
          obtain ⟨h1, h2⟩ := hrows _ hl _ hx _ _ _ _ _ rfl
          obtain ⟨h0, h3, h4, h5⟩ := hr
          refine ⟨h0, Nat.le_refl _, by rw [h2]; exact Nat.le_refl _, fun _ => ?_⟩
          simp only [X.d] at he ⊢
          rw [he]
          exact h5 h1
        · cases hm
      · cases hm
    · cases hm
  · cases hm

theorem matchSCs_rel {hs rs : List (Option Res)} {ρ ρ' : List D} {Φ : FuncId → List D → List D} (hrows : RowsAt hs rs gh) : ∀ {s t : List SC} {l : List (Nat × X)}, matchSCs hs rs s t = some l → Binds Φ ρ ρ' l → ∀ {v : List Value}, relS Φ ρ w gh t v → relS Φ ρ' w (gh.cut hs) s v
  | [], [], l, hm, hb, v, hr => by
    cases v with
    | nil => trivial
    | cons => exact hr.elim
  | a :: as, b :: bs, l, hm, hb, v, hr => by
    cases v with
    | nil => exact hr.elim
    | cons v vs =>
      unfold matchSCs at hm
      split at hm
      · rename_i l1 l2 h1 h2
        simp only [Option.some.injEq] at hm
        subst hm
        exact ⟨matchSC_rel hrows h1 hb.left hr.1, matchSCs_rel hrows h2 hb.right hr.2⟩
      · cases hm
  | [], _ :: _, l, hm, _, _, _ => by simp [matchSCs] at hm
  | _ :: _, [], l, hm, _, _, _ => by simp [matchSCs] at hm

theorem matchSV_rel {hs rs : List (Option Res)} {ρ ρ' : List D} {Φ : FuncId → List D → List D} (hrows : RowsAt hs rs gh) : ∀ {s t : SV} {l : List (Nat × X)}, matchSV hs rs s t = some l → Binds Φ ρ ρ' l → ∀ {v : Value}, SV.rel Φ ρ w gh t v → SV.rel Φ ρ' w (gh.cut hs) s v := by
  intro s t l hm hb v hr
  unfold matchSV at hm
  split at hm
  · trivial
  · exact matchSC_rel hrows hm hb hr
  · obtain ⟨vs, h1, h2⟩ := hr
    exact ⟨vs, h1, matchSCs_rel hrows hm hb h2⟩
  · cases hm

theorem matchSVs_get {hs rs : List (Option Res)} : ∀ {s t : List SV} {l : List (Nat × X)}, matchSVs hs rs s t = some l → s.length = t.length ∧ ∀ (n : Nat) a b, s[n]? = some a → t[n]? = some b → ∃ l', matchSV hs rs a b = some l' ∧ ∀ p ∈ l', p ∈ l
  | [], [], l, hm => ⟨rfl, by simp⟩
  | a :: as, b :: bs, l, hm => by
    unfold matchSVs at hm
    split at hm
    · rename_i l1 l2 h1 h2
      simp only [Option.some.injEq] at hm
      subst hm
      obtain ⟨i1, i2⟩ := matchSVs_get h2
      refine ⟨by simp [i1], fun n x y hx hy => ?_⟩
      cases n with
      | zero =>
        simp only [List.getElem?_cons_zero, Option.some.injEq] at hx hy
        subst hx hy
        exact ⟨l1, h1, fun p hp => List.mem_append_left _ hp⟩
      | succ n =>
        obtain ⟨l', h3, h4⟩ := i2 n x y (by simpa using hx) (by simpa using hy)
        exact ⟨l', h3, fun p hp => List.mem_append_right _ (h4 p hp)⟩
    · cases hm
  | [], _ :: _, l, hm => by simp [matchSVs] at hm
  | _ :: _, [], l, hm => by simp [matchSVs] at hm

theorem matchRess_get {hs rs : List (Option Res)} : ∀ {s t : List (Option Res)} {l : List (Nat × X)}, matchRess hs rs s t = some l → s.length ≤ t.length ∧ ∀ (r : Nat) x, s[r]? = some (some x) → ∃ y l', t[r]? = some (some y) ∧ isTt x.g = true ∧ isTt y.g = true ∧ matchRK hs rs x.k y.k = some l' ∧ ∀ p ∈ l', p ∈ l
  | [], t, l, hm => ⟨by simp, by simp⟩
  | none :: as, b :: bs, l, hm => by
    unfold matchRess at hm
    obtain ⟨i1, i2⟩ := matchRess_get hm
    refine ⟨by simpa using i1, fun r x hx => ?_⟩
    cases r with
    | zero => simp at hx
    | succ r => simpa using i2 r x (by simpa using hx)
  | some a :: as, some b :: bs, l, hm => by
    unfold matchRess at hm
    split at hm
    · rename_i hc
      simp only [Bool.and_eq_true] at hc
      split at hm
      · rename_i l1 l2 h1 h2
        simp only [Option.some.injEq] at hm
        subst hm
        obtain ⟨i1, i2⟩ := matchRess_get h2
        refine ⟨by simpa using i1, fun r x hx => ?_⟩
        cases r with
        | zero =>
          simp only [List.getElem?_cons_zero, Option.some.injEq] at hx
          subst hx
          exact ⟨b, l1, rfl, hc.1, hc.2, h1, fun p hp => List.mem_append_left _ hp⟩
        | succ r =>
          obtain ⟨y, l', h3, h4, h5, h6, h7⟩ := i2 r x (by simpa using hx)
          exact ⟨y, l', by simpa using h3, h4, h5, h6, fun p hp => List.mem_append_right _ (h7 p hp)⟩
      · cases hm
    · cases hm
  | some a :: as, none :: bs, l, hm => by simp [matchRess] at hm
  | some a :: as, [], l, hm => by simp [matchRess] at hm
  | none :: as, [], l, hm => by simp [matchRess] at hm

theorem matchRK_inv {hs rs : List (Option Res)} {k k' : RK} {l : List (Nat × X)} (h : matchRK hs rs k k' = some l) :
    (∃ e cs cs' z, k = .box e cs z ∧ k' = .box e cs' z ∧ matchSCs hs rs cs cs' = some l) ∨ (∃ e cts i x v z, k = .row e cts (.var i) 1 z ∧ k' = .row e cts x v z ∧ l = [(i, x)]) := by
  cases k with
  | box e cs z =>
    cases k' with
    | row => simp [matchRK] at h
    | box e' cs' z' =>
      simp only [matchRK] at h
      split at h
      · rename_i hc
        simp only [Bool.and_eq_true, beq_iff_eq] at hc
        obtain ⟨rfl, rfl⟩ := hc
        exact .inl ⟨_, _, _, _, rfl, rfl, h⟩
      · cases h
  | row e cts c one z =>
    cases k' with
    | box => cases c <;> simp [matchRK] at h
    | row e' cts' x v z' =>
      cases c with
      | var i =>
        simp only [matchRK] at h
        split at h
        · rename_i hc
          simp only [Bool.and_eq_true, beq_iff_eq] at hc
          obtain ⟨⟨⟨rfl, hcc⟩, rfl⟩, rfl⟩ := hc
          have := CT.beqs_eq _ _ hcc
          subst this
          simp only [Option.some.injEq] at h
          exact .inr ⟨_, _, _, _, _, _, rfl, rfl, h.symm⟩
        · cases h
      | _ => simp [matchRK] at h

theorem look_mem : ∀ {l : List (Nat × X)}, oneEach l = true → ∀ p ∈ l, look l p.1 = some p.2
  | [], _, p, hp => by cases hp
  | q :: l, h, p, hp => by
    simp only [oneEach, Bool.and_eq_true] at h
    cases hp with
    | head => simp [look]
    | tail _ hp =>
      have := List.all_eq_true.1 h.1 p hp
      simp only [Bool.not_eq_true', beq_eq_false_iff_ne, ne_eq] at this
      unfold look
      rw [if_neg (by simp; exact fun e => this e.symm)]
      exact look_mem h.2 p hp

theorem looks_get {l : List (Nat × X)} : ∀ {n i : Nat} {xs : List X}, looks l i n = some xs → xs.length = n ∧ ∀ j, j < n → look l (i + j) = xs[j]?
  | 0, i, xs, h => by
    simp only [looks, Option.some.injEq] at h
    subst h
    exact ⟨rfl, fun j hj => by omega⟩
  | n + 1, i, xs, h => by
    unfold looks at h
    split at h
    · rename_i x ys h1 h2
      simp only [Option.some.injEq] at h
      subst h
      obtain ⟨i1, i2⟩ := looks_get h2
      refine ⟨by simp [i1], fun j hj => ?_⟩
      cases j with
      | zero => simpa using h1
      | succ j =>
        have := i2 j (by omega)
        rw [List.getElem?_cons_succ, ← this]
        congr 1
        omega
    · cases h

structure MatchOk (hd : St) (nv : Nat) (σ : St) (args : List X) (l m : List (Nat × X)) : Prop where
  slots : matchSVs hd.res σ.res hd.slots σ.slots = some l
  ress : matchRess hd.res σ.res hd.res σ.res = some m
  len : args.length = nv
  bind : ∀ p ∈ l ++ m, args.getD p.1 .nil = p.2 ∧ p.1 < nv

theorem match_ok {hd : St} {nv : Nat} {args : List X} (h : matchHead hd nv σ = some args) : ∃ l m, MatchOk hd nv σ args l m := by
  unfold matchHead at h
  split at h
  · rename_i l m h1 h2
    split at h
    · rename_i hc
      simp only [Bool.and_eq_true] at hc
      obtain ⟨i1, i2⟩ := looks_get h
      refine ⟨l, m, h1, h2, i1, fun p hp => ?_⟩
      have hlt : p.1 < nv := by have := List.all_eq_true.1 hc.2 p hp; exact Nat.le_of_ble_eq_true this
      have h3 := look_mem hc.1 p hp
      have h4 := i2 p.1 hlt
      rw [Nat.zero_add, h3] at h4
      exact ⟨by simp [List.getD, ← h4], hlt⟩
    · cases h
  · cases h

theorem listed_get {hs : List (Option Res)} {r : Nat} (h : listed hs r = true) : ∃ x, hs[r]? = some (some x) ∧ hs.getD r none = some x := by
  unfold listed at h
  cases hx : hs.getD r none with
  | none => rw [hx] at h; cases h
  | some x =>
    refine ⟨x, ?_, rfl⟩
    simp only [List.getD] at hx
    cases hy : hs[r]? with
    | none => rw [hy] at hx; cases hx
    | some y => rw [hy] at hx; simp at hx; rw [hx]

theorem listed_of {hs : List (Option Res)} {r : Nat} {x : Res} (h : hs[r]? = some (some x)) : listed hs r = true := by simp [listed, List.getD, h]

theorem MatchOk.rows {hd : St} {nv : Nat} {args : List X} {l m : List (Nat × X)} (h : MatchOk hd nv σ args l m) (hI : Inv K σ gh a w) : RowsAt hd.res σ.res gh := by
  intro r hl x hx ety cts c ver z hk
  obtain ⟨y, h1, h2⟩ := listed_get hl
  obtain ⟨x', l', h3, _, h5, h6, _⟩ := (matchRess_get h.ress).2 r y h1
  have : x = x' := by simp only [List.getD, h3] at hx; simpa using hx.symm
  subst this
  have hok := hI.res r x h3 (isTt_sound h5)
  rw [hk] at hok h6
  refine ⟨hok.1, ?_⟩
  simp only [Gh.cut, h2]
  obtain ⟨gy, ky⟩ := y
  cases ky with
  | row => rfl
  | box => simp [matchRK] at h6

/-- THE STATE AT A LOOP'S HEAD, from a state that matches. -/
theorem match_inv (hI : Inv K σ gh a w) {hd : St} {nv : Nat} {args : List X} (hm : matchHead hd nv σ = some args) {K' : Ctx} (hΦ : K'.Φ = K.Φ) (hρ : K'.ρ = args.map (X.d K.Φ K.ρ)) (hgh : K'.gh0 = gh.cut hd.res)
    (kept : ∀ n, K'.wok n = false → a.tmps.getD n undef = K'.a0.tmps.getD n undef) (os : w.os = K'.w0.os) (tape : w.tape = K'.w0.tape) (output : w.output = K'.w0.output) (grow : K'.w0.heap.size ≤ w.heap.size)
    (pr : ∀ b, K'.Pr b → w.heap[b]? = K'.w0.heap[b]?) (prlt : ∀ b, K'.Pr b → b < K'.w0.heap.size) (own : ∀ r x b, listed hd.res r = true → σ.has r x → x.on K → x.k.live gh r = some b → ¬ K'.Pr b) :
    Inv K' hd (gh.cut hd.res) a w := by
  obtain ⟨l, m, hk⟩ := match_ok hm
  have hrows := hk.rows hI
  obtain ⟨s1, s2⟩ := matchSVs_get hk.slots
  obtain ⟨r1, r2⟩ := matchRess_get hk.ress
  have hb : Binds K.Φ K.ρ K'.ρ (l ++ m) := by
    intro p hp
    obtain ⟨h1, h2⟩ := hk.bind p hp
    have hlt : p.1 < args.length := by rw [hk.len]; exact h2
    rw [hρ]
    simp only [List.getD, List.getElem?_map, List.getElem?_eq_getElem hlt, Option.map_some, Option.getD_some] at h1 ⊢
    rw [h1]
  have live : ∀ r x, hd.has r x → ∃ y, σ.has r y ∧ y.on K ∧ x.k.live (gh.cut hd.res) r = y.k.live gh r ∧ x.on K' ∧ ∃ l', matchRK hd.res σ.res x.k y.k = some l' ∧ ∀ p ∈ l', p ∈ m := by
    intro r x hx
    obtain ⟨y, l', h1, h2, h3, h4, h5⟩ := r2 r x hx
    refine ⟨y, h1, isTt_sound h3, ?_, isTt_sound h2, l', h4, h5⟩
    have hl := listed_of hx
    rcases matchRK_inv h4 with ⟨e, cs, cs', z, e1, e2, _⟩ | ⟨e, cts, i, x', v, z, e1, e2, _⟩
    · rw [e1, e2]
      cases z <;> simp [RK.live, Gh.cut, hl]
    · rw [e1, e2]
      cases z <;> simp [RK.live, Gh.cut]
  refine ⟨hI.defers, by rw [hI.size, s1], fun n s hs => ?_, kept, os, tape, output, grow, pr, prlt, hI.Flt, fun r b hb' => ?_, fun r hr => ?_, fun r x hx hon => ?_, fun r x b hx hon hl => ?_, fun r x r' x' b hx _ hx' _ hl hl' => ?_, by rw [hgh]; exact Gh.le.refl _, fun b hb' => by rw [hgh]; exact .inl hb'⟩
  · have hlt : n < σ.slots.length := by rw [← s1]; exact (List.getElem?_eq_some_iff.1 hs).1
    obtain ⟨l', h1, h2⟩ := s2 n s σ.slots[n] hs (List.getElem?_eq_getElem hlt)
    rw [hΦ]
    exact matchSV_rel hrows h1 (fun p hp => hb p (List.mem_append_left _ (h2 p hp))) (hI.slot n _ (List.getElem?_eq_getElem hlt))
  · simp only [Gh.cut] at hb'
    split at hb'
    · rename_i hl
      obtain ⟨x, h1, _⟩ := listed_get hl
      obtain ⟨y, _, _, _, h5, _⟩ := live r x h1
      exact ⟨x, h1, h5⟩
    · cases hb'
  · have hl : listed hd.res r = true := by
      simp only [Gh.cut] at hr
      unfold listed
      cases hx : hd.res.getD r none with
      | none => rw [hx] at hr; simp at hr
      | some x => rfl
    obtain ⟨x, h1, _⟩ := listed_get hl
    obtain ⟨y, _, _, _, h5, _⟩ := live r x h1
    exact ⟨x, h1, h5⟩
  · obtain ⟨y, h1, h2, _, _, l', h3, h4⟩ := live r x hx
    have hok := hI.res r y h1 h2
    have hl := listed_of hx
    rcases matchRK_inv h3 with ⟨e, cs, cs', z, e1, e2, h3⟩ | ⟨e, cts, i, x', v, z, e1, e2, rfl⟩
    · rw [e2] at hok
      rw [e1]
      obtain ⟨b, cur, o1, o2, o3, o4⟩ := hok
      refine ⟨b, cur, by simp only [Gh.cut, hl, if_true]; exact o1, o2, ?_, o4⟩
      rw [hΦ]
      exact matchSCs_rel hrows h3 (fun p hp => hb p (List.mem_append_right _ (h4 p hp))) o3
    · rw [e2] at hok
      have hval := hb (i, x') (List.mem_append_right _ (h4 _ List.mem_cons_self))
      obtain ⟨gx, kx⟩ := x
      simp only at e1
      subst e1
      have hx0 : hd.res.getD r none = some ⟨gx, .row e cts (.var i) 1 z⟩ := by
        unfold St.has at hx
        simp [List.getD, hx]
      obtain ⟨o1, o2, o3, o4⟩ := hok
      refine ⟨by simp only [Gh.cut, hx0], Nat.le_refl _, o3, ?_⟩
      simp only [X.d] at hval ⊢
      rw [hval]
      exact o4
  · obtain ⟨y, h1, h2, h3, _⟩ := live r x hx
    rw [h3] at hl
    obtain ⟨o1, o2, o3⟩ := hI.own r y b h1 h2 hl
    exact ⟨own r y b (listed_of hx) h1 h2 hl, o2, o3⟩
  · obtain ⟨y, h1, h2, h3, _⟩ := live r x hx
    obtain ⟨y', h1', h2', h3', _⟩ := live r' x' hx'
    rw [h3] at hl
    rw [h3'] at hl'
    exact hI.inj r y r' y' b h1 h2 h1' h2' hl hl'

end
end Go.RV
